/- What the functions answer, as plain relations, printed by my own tool off the program's translation. No condition. -/
import Derived.Test.YtbejkaeidnajkaaDoorP0
set_option linter.unusedVariables false
namespace Go.Proofs.YtbejkaeidnajkaaDoor.R
open Go.Proofs.YtbejkaeidnajkaaDoor.B
structure rpc_Buffer where
  wait : List Int
  code : Int
  deriving Inhabited, DecidableEq
def strconv_Itoa (x1 : Int) (r : ByteArray) : Prop :=
  (-9223372036854775808 ≤ x1 ∧ x1 ≤ 9223372036854775807) ∧ r = itoaB x1
def rpc_Put (x1 : ByteArray) (r : (List Int) × Int) : Prop :=
  if (x1.size : Int) > 2097152 then
    r = (([] : List Int), 262)
  else
    ∃ r6 : ByteArray, (strconv_Itoa (x1.size : Int) r6) ∧
    ((⟨#[67, 111, 110, 116, 101, 110, 116, 45, 76, 101, 110, 103, 116, 104, 58, 32]⟩ : ByteArray).size + r6.size ≤ 9223372036854775807) ∧
    (((⟨#[67, 111, 110, 116, 101, 110, 116, 45, 76, 101, 110, 103, 116, 104, 58, 32]⟩ : ByteArray) ++ r6).size + (⟨#[13, 10, 13, 10]⟩ : ByteArray).size ≤ 9223372036854775807) ∧
    ((((⟨#[67, 111, 110, 116, 101, 110, 116, 45, 76, 101, 110, 103, 116, 104, 58, 32]⟩ : ByteArray) ++ r6) ++ (⟨#[13, 10, 13, 10]⟩ : ByteArray)).size + x1.size ≤ 9223372036854775807) ∧
    (((((⟨#[67, 111, 110, 116, 101, 110, 116, 45, 76, 101, 110, 103, 116, 104, 58, 32]⟩ : ByteArray) ++ r6) ++ (⟨#[13, 10, 13, 10]⟩ : ByteArray)) ++ x1).size ≤ 9223372036854775807) ∧
    r = ((bsOf ((((⟨#[67, 111, 110, 116, 101, 110, 116, 45, 76, 101, 110, 103, 116, 104, 58, 32]⟩ : ByteArray) ++ r6) ++ (⟨#[13, 10, 13, 10]⟩ : ByteArray)) ++ x1)), 0)
def trellisref26_Digits_b1 (x8 : Int) (x9 : ByteArray) (o1 : Sum (Int × ByteArray) ByteArray) : Prop :=
  if x8 ≥ 10 then
    (0 ≤ Int.tmod x8 10 ∧ Int.tmod x8 10 ≤ w64 ((Int.tmod x8 10) + 1) ∧ w64 ((Int.tmod x8 10) + 1) ≤ ((⟨#[48, 49, 50, 51, 52, 53, 54, 55, 56, 57]⟩ : ByteArray).size : Int)) ∧
    (((⟨#[48, 49, 50, 51, 52, 53, 54, 55, 56, 57]⟩ : ByteArray).extract (Int.tmod x8 10 : Int).toNat (w64 ((Int.tmod x8 10) + 1) : Int).toNat).size + x9.size ≤ 9223372036854775807) ∧
    o1 = .inl (w64 (Int.tdiv x8 10), ((⟨#[48, 49, 50, 51, 52, 53, 54, 55, 56, 57]⟩ : ByteArray).extract (Int.tmod x8 10 : Int).toNat (w64 ((Int.tmod x8 10) + 1) : Int).toNat) ++ x9)
  else
    (0 ≤ x8 ∧ x8 ≤ w64 (x8 + 1) ∧ w64 (x8 + 1) ≤ ((⟨#[48, 49, 50, 51, 52, 53, 54, 55, 56, 57]⟩ : ByteArray).size : Int)) ∧
    (((⟨#[48, 49, 50, 51, 52, 53, 54, 55, 56, 57]⟩ : ByteArray).extract (x8 : Int).toNat (w64 (x8 + 1) : Int).toNat).size + x9.size ≤ 9223372036854775807) ∧
    o1 = .inr (((⟨#[48, 49, 50, 51, 52, 53, 54, 55, 56, 57]⟩ : ByteArray).extract (x8 : Int).toNat (w64 (x8 + 1) : Int).toNat) ++ x9)
def trellisref26_Digits (x1 : Int) (r : ByteArray) : Prop :=
  Rounds (fun (s : Int × ByteArray) o => trellisref26_Digits_b1 s.1 s.2 o) (x1, (⟨#[]⟩ : ByteArray)) r
def trellisref26_Put (x1 : ByteArray) (r : (List Int) × Int) : Prop :=
  if (x1.size : Int) > 2097152 then
    r = (([] : List Int), 262)
  else
    ∃ r6 : ByteArray, (trellisref26_Digits (x1.size : Int) r6) ∧
    ((⟨#[67, 111, 110, 116, 101, 110, 116, 45, 76, 101, 110, 103, 116, 104, 58, 32]⟩ : ByteArray).size + r6.size ≤ 9223372036854775807) ∧
    (((⟨#[67, 111, 110, 116, 101, 110, 116, 45, 76, 101, 110, 103, 116, 104, 58, 32]⟩ : ByteArray) ++ r6).size + (⟨#[13, 10, 13, 10]⟩ : ByteArray).size ≤ 9223372036854775807) ∧
    ((((⟨#[67, 111, 110, 116, 101, 110, 116, 45, 76, 101, 110, 103, 116, 104, 58, 32]⟩ : ByteArray) ++ r6) ++ (⟨#[13, 10, 13, 10]⟩ : ByteArray)).size + x1.size ≤ 9223372036854775807) ∧
    (((((⟨#[67, 111, 110, 116, 101, 110, 116, 45, 76, 101, 110, 103, 116, 104, 58, 32]⟩ : ByteArray) ++ r6) ++ (⟨#[13, 10, 13, 10]⟩ : ByteArray)) ++ x1).size ≤ 9223372036854775807) ∧
    r = ((bsOf ((((⟨#[67, 111, 110, 116, 101, 110, 116, 45, 76, 101, 110, 103, 116, 104, 58, 32]⟩ : ByteArray) ++ r6) ++ (⟨#[13, 10, 13, 10]⟩ : ByteArray)) ++ x1)), 0)
def trellislaw26_sameBytes_b1 (x1 : List Int) (x6 : List Int) (x23 : Int) (o1 : Sum Int Bool) : Prop :=
  if x23 < (x1.length : Int) then
    (0 ≤ x23 ∧ x23 < (x1.length : Int)) ∧
    (0 ≤ x23 ∧ x23 < (x6.length : Int)) ∧
    if ix x1 x23 = ix x6 x23 then
      o1 = .inl (w64 (x23 + 1))
    else
      o1 = .inr (false)
  else
    o1 = .inr (true)
def trellislaw26_sameBytes (x1 : List Int) (x6 : List Int) (r : Bool) : Prop :=
  if (x1.length : Int) = (x6.length : Int) then
    Rounds (fun (s : Int) o => trellislaw26_sameBytes_b1 x1 x6 s o) 0 r
  else
    r = false
def trellislaw26_marked_b2 (x133 : List Int) (x138 : Int) (o2 : Sum ((List Int) × Int) (Sum ((List Int) × Int) (List Int))) : Prop :=
  if x138 < 64 then
    ∃ x156 : List Int, (x156 = x133 ++ ([IntKind.u8.wrap (w64 (150 + x138))] : List Int)) ∧
    (x156.length * 1 ≤ 211106232532992) ∧
    o2 = .inl (x156, w64 (x138 + 1))
  else
    o2 = .inr (.inr (x133))
def trellislaw26_marked_b1 (x1 : List Int) (x57 : List Int) (x62 : Int) (o1 : Sum ((List Int) × Int) (List Int)) : Prop :=
  if x62 < (x1.length : Int) then
    (0 ≤ x62 ∧ x62 < (x1.length : Int)) ∧
    ∃ x120 : List Int, (x120 = x57 ++ ([ix x1 x62] : List Int)) ∧
    (x120.length * 1 ≤ 211106232532992) ∧
    o1 = .inl (x120, w64 (x62 + 1))
  else
    Rounds (fun (s : (List Int) × Int) o => trellislaw26_marked_b2 s.1 s.2 o) (x57, 0) o1
def trellislaw26_marked (x1 : List Int) (r : List Int) : Prop :=
  Rounds (fun (s : (List Int) × Int) o => trellislaw26_marked_b1 x1 s.1 s.2 o) (([] : List Int), 0) r
def rpc_stands_b1 (x6 : ByteArray) (x1 : List Int) (x16 : Int) (o1 : Sum Int Int) : Prop :=
  if x16 < (x6.size : Int) then
    if x16 = (x1.length : Int) then
      o1 = .inr (260)
    else
      (0 ≤ x16 ∧ x16 < (x1.length : Int)) ∧
      (0 ≤ x16 ∧ x16 < (x6.size : Int)) ∧
      if ix x1 x16 = bt x6 x16 then
        o1 = .inl (w64 (x16 + 1))
      else
        o1 = .inr (261)
  else
    o1 = .inr (0)
def rpc_stands (x1 : List Int) (x6 : ByteArray) (r : Int) : Prop :=
  Rounds (fun (s : Int) o => rpc_stands_b1 x6 x1 s o) 0 r
def rpc_number_j3 (x23 : Int) (x1 : List Int) (x22 : Int) (x56 : Bool) (o1 : Sum (Int × Int) (Int × Int × Int)) : Prop :=
  if x56 = true then
    o1 = .inr ((0, 0, 261))
  else
    (0 ≤ x23 ∧ x23 < (x1.length : Int)) ∧
    if w64 ((w64 (10 * x22)) + (w64 (IntKind.u8.wrap ((ix x1 x23) - 48)))) > 2097152 then
      o1 = .inr ((0, 0, 262))
    else
      o1 = .inl (w64 ((w64 (10 * x22)) + (w64 (IntKind.u8.wrap ((ix x1 x23) - 48)))), w64 (x23 + 1))
def rpc_number_j2 (x23 : Int) (x22 : Int) (x1 : List Int) (x51 : Bool) (o1 : Sum (Int × Int) (Int × Int × Int)) : Prop :=
  if x51 = true then
    if x23 = 0 then
      o1 = .inr ((0, 0, 261))
    else
      o1 = .inr ((x22, x23, 0))
  else
    if x23 > 0 then
      rpc_number_j3 x23 x1 x22 (x22 == 0) o1
    else
      rpc_number_j3 x23 x1 x22 false o1
def rpc_number_b1 (x1 : List Int) (x22 : Int) (x23 : Int) (o1 : Sum (Int × Int) (Int × Int × Int)) : Prop :=
  if x23 = (x1.length : Int) then
    o1 = .inr ((0, 0, 260))
  else
    (0 ≤ x23 ∧ x23 < (x1.length : Int)) ∧
    if ix x1 x23 < 48 then
      rpc_number_j2 x23 x22 x1 true o1
    else
      rpc_number_j2 x23 x22 x1 (decide (ix x1 x23 > 57)) o1
def rpc_number (x1 : List Int) (r : Int × Int × Int) : Prop :=
  Rounds (fun (s : Int × Int) o => rpc_number_b1 x1 s.1 s.2 o) (0, 0) r
def rpc_Take (x1 : List Int) (r : ByteArray × Int × Int) : Prop :=
  ∃ r9 : Int, (rpc_stands x1 (⟨#[67, 111, 110, 116, 101, 110, 116, 45, 76, 101, 110, 103, 116, 104, 58, 32]⟩ : ByteArray) r9) ∧
  if r9 = 0 then
    (0 ≤ (16 : Int) ∧ (16 : Int) ≤ (x1.length : Int) ∧ (x1.length : Int) ≤ (x1.length : Int)) ∧
    ∃ r20 : Int × Int × Int, (rpc_number (x1.drop (16 : Int).toNat) r20) ∧
    if r20.2.2 = 0 then
      (0 ≤ w64 (16 + r20.2.1) ∧ w64 (16 + r20.2.1) ≤ (x1.length : Int) ∧ (x1.length : Int) ≤ (x1.length : Int)) ∧
      ∃ r31 : Int, (rpc_stands (x1.drop (w64 (16 + r20.2.1) : Int).toNat) (⟨#[13, 10, 13, 10]⟩ : ByteArray) r31) ∧
      if r31 = 0 then
        if r20.1 > w64 ((x1.length : Int) - (w64 ((w64 (16 + r20.2.1)) + 4))) then
          r = ((⟨#[]⟩ : ByteArray), 0, 260)
        else
          (0 ≤ w64 ((w64 (16 + r20.2.1)) + 4) ∧ w64 ((w64 (16 + r20.2.1)) + 4) ≤ w64 ((w64 ((w64 (16 + r20.2.1)) + 4)) + r20.1) ∧ w64 ((w64 ((w64 (16 + r20.2.1)) + 4)) + r20.1) ≤ (x1.length : Int)) ∧
          r = (ofBs ((x1.take (w64 ((w64 ((w64 (16 + r20.2.1)) + 4)) + r20.1) : Int).toNat).drop (w64 ((w64 (16 + r20.2.1)) + 4) : Int).toNat), w64 ((w64 ((w64 (16 + r20.2.1)) + 4)) + r20.1), 0)
      else
        r = ((⟨#[]⟩ : ByteArray), 0, r31)
    else
      r = ((⟨#[]⟩ : ByteArray), 0, r20.2.2)
  else
    r = ((⟨#[]⟩ : ByteArray), 0, r9)
def trellisref26_Take_j2 (x1 : List Int) (x12 : Int) (x154 : Int) (x155 : Int) (x156 : Int) (o1 : Sum (Int × Int × Int × Int) (ByteArray × Int × Int)) : Prop :=
  if x156 = 4 then
    if w64 ((x1.length : Int) - (w64 (x12 + 1))) < x154 then
      o1 = .inr (((⟨#[]⟩ : ByteArray), 0, 260))
    else
      (0 ≤ w64 (x12 + 1) ∧ w64 (x12 + 1) ≤ w64 ((w64 (x12 + 1)) + x154) ∧ w64 ((w64 (x12 + 1)) + x154) ≤ (x1.length : Int)) ∧
      o1 = .inr ((ofBs ((x1.take (w64 ((w64 (x12 + 1)) + x154) : Int).toNat).drop (w64 (x12 + 1) : Int).toNat), w64 ((w64 (x12 + 1)) + x154), 0))
  else
    o1 = .inl (x154, x155, x156, w64 (x12 + 1))
def trellisref26_Take_j4 (x36 : Int) (x1 : List Int) (x12 : Int) (x37 : Int) (x82 : Int) (x170 : Bool) (o1 : Sum (Int × Int × Int × Int) (ByteArray × Int × Int)) : Prop :=
  if x170 = true then
    o1 = .inr (((⟨#[]⟩ : ByteArray), 0, 261))
  else
    if w64 ((w64 (10 * x36)) + (w64 (IntKind.u8.wrap ((ix x1 x12) - 48)))) > 2097152 then
      o1 = .inr (((⟨#[]⟩ : ByteArray), 0, 262))
    else
      trellisref26_Take_j2 x1 x12 (w64 ((w64 (10 * x36)) + (w64 (IntKind.u8.wrap ((ix x1 x12) - 48))))) (w64 (x37 + 1)) x82 o1
def trellisref26_Take_j3 (x37 : Int) (x36 : Int) (x1 : List Int) (x12 : Int) (x82 : Int) (x166 : Bool) (o1 : Sum (Int × Int × Int × Int) (ByteArray × Int × Int)) : Prop :=
  if x166 = true then
    if x37 > 0 then
      trellisref26_Take_j4 x36 x1 x12 x37 x82 (x36 == 0) o1
    else
      trellisref26_Take_j4 x36 x1 x12 x37 x82 false o1
  else
    if x37 = 0 then
      o1 = .inr (((⟨#[]⟩ : ByteArray), 0, 261))
    else
      (0 ≤ x82 ∧ x82 < ((⟨#[13, 10, 13, 10]⟩ : ByteArray).size : Int)) ∧
      if ix x1 x12 = bt (⟨#[13, 10, 13, 10]⟩ : ByteArray) x82 then
        trellisref26_Take_j2 x1 x12 x36 x37 (w64 (x82 + 1)) o1
      else
        o1 = .inr (((⟨#[]⟩ : ByteArray), 0, 261))
def trellisref26_Take_b1 (x1 : List Int) (x36 : Int) (x37 : Int) (x82 : Int) (x12 : Int) (o1 : Sum (Int × Int × Int × Int) (ByteArray × Int × Int)) : Prop :=
  if x12 < (x1.length : Int) then
    (0 ≤ x12 ∧ x12 < (x1.length : Int)) ∧
    if x12 < 16 then
      (0 ≤ x12 ∧ x12 < ((⟨#[67, 111, 110, 116, 101, 110, 116, 45, 76, 101, 110, 103, 116, 104, 58, 32]⟩ : ByteArray).size : Int)) ∧
      if ix x1 x12 = bt (⟨#[67, 111, 110, 116, 101, 110, 116, 45, 76, 101, 110, 103, 116, 104, 58, 32]⟩ : ByteArray) x12 then
        trellisref26_Take_j2 x1 x12 x36 x37 x82 o1
      else
        o1 = .inr (((⟨#[]⟩ : ByteArray), 0, 261))
    else
      if x82 = 0 then
        if ix x1 x12 ≥ 48 then
          trellisref26_Take_j3 x37 x36 x1 x12 x82 (decide (ix x1 x12 ≤ 57)) o1
        else
          trellisref26_Take_j3 x37 x36 x1 x12 x82 false o1
      else
        trellisref26_Take_j3 x37 x36 x1 x12 x82 false o1
  else
    o1 = .inr (((⟨#[]⟩ : ByteArray), 0, 260))
def trellisref26_Take (x1 : List Int) (r : ByteArray × Int × Int) : Prop :=
  Rounds (fun (s : Int × Int × Int × Int) o => trellisref26_Take_b1 x1 s.1 s.2.1 s.2.2.1 s.2.2.2 o) (0, 0, 0, 0) r
def trellislaw26_whole_b1 (x6 : List Int) (x1 : List Int) (x15 : Int) (o1 : Sum Int Bool) : Prop :=
  if x15 < 64 then
    (0 ≤ w64 ((x6.length : Int) + x15) ∧ w64 ((x6.length : Int) + x15) < (x1.length : Int)) ∧
    if w64 (ix x1 (w64 ((x6.length : Int) + x15))) = w64 (150 + x15) then
      o1 = .inl (w64 (x15 + 1))
    else
      o1 = .inr (false)
  else
    (0 ≤ (0 : Int) ∧ (0 : Int) ≤ (x6.length : Int) ∧ (x6.length : Int) ≤ (x1.length : Int)) ∧
    ∃ r39 : Bool, (trellislaw26_sameBytes (x1.take ((x6.length : Int) : Int).toNat) x6 r39) ∧
    o1 = .inr (r39)
def trellislaw26_whole (x1 : List Int) (x6 : List Int) (r : Bool) : Prop :=
  Rounds (fun (s : Int) o => trellislaw26_whole_b1 x6 x1 s o) 0 r
def trellislaw26_RpcFrames_b7 (x3860 : List Int) (x3861 : Int) (o4 : Sum ((List Int) × Int) (Sum ((List Int) × Int) (Sum ((List Int) × Int) (Sum ((List Int) × Int) Bool)))) : Prop :=
  if x3861 < (x3860.length : Int) then
    (0 ≤ w64 ((w64 ((x3860.length : Int) - 1)) - x3861) ∧ w64 ((w64 ((x3860.length : Int) - 1)) - x3861) < (x3860.length : Int)) ∧
    (0 ≤ x3861 ∧ x3861 < (x3860.length : Int)) ∧
    ∃ x3907 : List Int, (x3907 = x3860.set (x3861 : Int).toNat (ix x3860 (w64 ((w64 ((x3860.length : Int) - 1)) - x3861)))) ∧
    o4 = .inl (x3907, w64 (x3861 + 1))
  else
    ∃ r3913 : List Int, (trellislaw26_marked x3860 r3913) ∧
    (0 ≤ (0 : Int) ∧ (0 : Int) ≤ (x3860.length : Int) ∧ (x3860.length : Int) ≤ (r3913.length : Int)) ∧
    ∃ x3925 : List Int, (x3925 = r3913.take ((x3860.length : Int) : Int).toNat) ∧
    ∃ r3931 : ByteArray × Int × Int, (trellisref26_Take x3925 r3931) ∧
    ∃ r3939 : ByteArray × Int × Int, (rpc_Take x3860 r3939) ∧
    if r3939.1 = r3931.1 then
      if r3939.2.1 = r3931.2.1 then
        o4 = .inr (.inr (.inr (.inr ((r3939.2.2 == r3931.2.2)))))
      else
        o4 = .inr (.inr (.inr (.inr (false))))
    else
      o4 = .inr (.inr (.inr (.inr (false))))
def trellislaw26_RpcFrames_j6 (x2 : List Int) (x3785 : Bool) (o3 : Sum ((List Int) × Int) (Sum ((List Int) × Int) (Sum ((List Int) × Int) Bool))) : Prop :=
  if x3785 = true then
    o3 = .inr (.inr (.inr (false)))
  else
    ∃ r3790 : List Int, (trellislaw26_marked x2 r3790) ∧
    (0 ≤ (0 : Int) ∧ (0 : Int) ≤ (x2.length : Int) ∧ (x2.length : Int) ≤ (r3790.length : Int)) ∧
    ∃ x3802 : List Int, (x3802 = r3790.take ((x2.length : Int) : Int).toNat) ∧
    ∃ r3808 : ByteArray × Int × Int, (rpc_Take x3802 r3808) ∧
    Rounds (fun (s : (List Int) × Int) o => trellislaw26_RpcFrames_b7 s.1 s.2 o) (x3802, 0) o3
def trellislaw26_RpcFrames_b5 (r3359 : ByteArray × Int × Int) (r3367 : ByteArray × Int × Int) (r48 : (List Int) × Int) (r23 : (List Int) × Int) (x2 : List Int) (x2682 : List Int) (x3575 : List Int) (x3580 : Int) (o3 : Sum ((List Int) × Int) (Sum ((List Int) × Int) (Sum ((List Int) × Int) Bool))) : Prop :=
  if x3580 < (x3575.length : Int) then
    (0 ≤ x3580 ∧ x3580 < (x3575.length : Int)) ∧
    ∃ x3771 : List Int, (x3771 = x3575.set (x3580 : Int).toNat 7) ∧
    o3 = .inl (x3771, w64 (x3580 + 1))
  else
    if r3359.1 = r3367.1 then
      ∃ r3951 : Bool, (trellislaw26_sameBytes r48.1 r23.1 r3951) ∧
      if r3951 = true then
        trellislaw26_RpcFrames_j6 x2 ((x2682.length : Int) != (w64 ((r23.1.length : Int) + 70))) o3
      else
        trellislaw26_RpcFrames_j6 x2 true o3
    else
      trellislaw26_RpcFrames_j6 x2 true o3
def trellislaw26_RpcFrames_j4 (r3359 : ByteArray × Int × Int) (r3367 : ByteArray × Int × Int) (r48 : (List Int) × Int) (r23 : (List Int) × Int) (x2 : List Int) (x2682 : List Int) (r3341 : List Int) (x3384 : Bool) (o2 : Sum ((List Int) × Int) (Sum ((List Int) × Int) Bool)) : Prop :=
  if x3384 = true then
    o2 = .inr (.inr (false))
  else
    Rounds (fun (s : (List Int) × Int) o => trellislaw26_RpcFrames_b5 r3359 r3367 r48 r23 x2 x2682 s.1 s.2 o) (r3341, 0) o2
def trellislaw26_RpcFrames_b3 (x2 : List Int) (r48 : (List Int) × Int) (r23 : (List Int) × Int) (x2682 : List Int) (x2687 : Int) (o2 : Sum ((List Int) × Int) (Sum ((List Int) × Int) Bool)) : Prop :=
  if x2687 < 70 then
    ∃ x3335 : List Int, (x3335 = x2682 ++ ([9] : List Int)) ∧
    (x3335.length * 1 ≤ 211106232532992) ∧
    o2 = .inl (x3335, w64 (x2687 + 1))
  else
    ∃ r3341 : List Int, (trellislaw26_marked x2 r3341) ∧
    (0 ≤ (0 : Int) ∧ (0 : Int) ≤ (x2.length : Int) ∧ (x2.length : Int) ≤ (r3341.length : Int)) ∧
    ∃ x3353 : List Int, (x3353 = r3341.take ((x2.length : Int) : Int).toNat) ∧
    ∃ r3359 : ByteArray × Int × Int, (rpc_Take x3353 r3359) ∧
    ∃ r3367 : ByteArray × Int × Int, (trellisref26_Take x2 r3367) ∧
    if r3359.1 = r3367.1 then
      if r3359.2.1 = r3367.2.1 then
        if r3359.2.2 = r3367.2.2 then
          ∃ r3963 : Bool, (trellislaw26_whole r3341 x2 r3963) ∧
          trellislaw26_RpcFrames_j4 r3359 r3367 r48 r23 x2 x2682 r3341 (!r3963) o2
        else
          trellislaw26_RpcFrames_j4 r3359 r3367 r48 r23 x2 x2682 r3341 true o2
      else
        trellislaw26_RpcFrames_j4 r3359 r3367 r48 r23 x2 x2682 r3341 true o2
    else
      trellislaw26_RpcFrames_j4 r3359 r3367 r48 r23 x2 x2682 r3341 true o2
def trellislaw26_RpcFrames_b2 (x2 : List Int) (r48 : (List Int) × Int) (r23 : (List Int) × Int) (x1360 : List Int) (x1365 : Int) (o1 : Sum ((List Int) × Int) Bool) : Prop :=
  if x1365 < (x1360.length : Int) then
    (0 ≤ x1365 ∧ x1365 < (x1360.length : Int)) ∧
    ∃ x2669 : List Int, (x2669 = x1360.set (x1365 : Int).toNat 7) ∧
    o1 = .inl (x2669, w64 (x1365 + 1))
  else
    Rounds (fun (s : (List Int) × Int) o => trellislaw26_RpcFrames_b3 x2 r48 r23 s.1 s.2 o) (x1360, 0) o1
def trellislaw26_RpcFrames_j1 (x1 : ByteArray) (x2 : List Int) (r23 : (List Int) × Int) (r10 : (List Int) × Int) (x43 : Bool) (r : Bool) : Prop :=
  if x43 = true then
    r = false
  else
    ∃ r48 : (List Int) × Int, (rpc_Put x1 r48) ∧
    Rounds (fun (s : (List Int) × Int) o => trellislaw26_RpcFrames_b2 x2 r48 r23 s.1 s.2 o) (r10.1, 0) r
def trellislaw26_RpcFrames (x1 : ByteArray) (x2 : List Int) (r : Bool) : Prop :=
  ∃ r10 : (List Int) × Int, (rpc_Put x1 r10) ∧
  ∃ r23 : (List Int) × Int, (trellisref26_Put x1 r23) ∧
  ∃ r3971 : Bool, (trellislaw26_sameBytes r10.1 r23.1 r3971) ∧
  if r3971 = true then
    trellislaw26_RpcFrames_j1 x1 x2 r23 r10 (r10.2 != r23.2) r
  else
    trellislaw26_RpcFrames_j1 x1 x2 r23 r10 true r
def rpc_New  (r : rpc_Buffer) : Prop :=
  r = (⟨([] : List Int), 0⟩ : rpc_Buffer)
def rpc_Buffer_Feed_b1 (x1 : rpc_Buffer) (x56 : List ByteArray) (x61 : List Int) (o1 : Sum ((List ByteArray) × (List Int)) ((List ByteArray) × Int × rpc_Buffer)) : Prop :=
  ∃ r94 : ByteArray × Int × Int, (rpc_Take x61 r94) ∧
  if r94.2.2 = 0 then
    ∃ x106 : List ByteArray, (x106 = x56 ++ ([r94.1] : List ByteArray)) ∧
    (x106.length * 16 ≤ 211106232532992) ∧
    (0 ≤ r94.2.1 ∧ r94.2.1 ≤ (x61.length : Int) ∧ (x61.length : Int) ≤ (x61.length : Int) ∧ (x61.length : Int) ≤ (x61.length : Int)) ∧
    o1 = .inl (x106, ((x61.take ((x61.length : Int) : Int).toNat).drop (r94.2.1 : Int).toNat))
  else
    if r94.2.2 = 260 then
      o1 = .inr ((x56, 0, (⟨x61, x1.code⟩ : rpc_Buffer)))
    else
      o1 = .inr ((x56, r94.2.2, (⟨([] : List Int), r94.2.2⟩ : rpc_Buffer)))
def rpc_Buffer_Feed (x1 : rpc_Buffer) (x8 : List Int) (r : (List ByteArray) × Int × rpc_Buffer) : Prop :=
  if x1.code = 0 then
    (0 ≤ w64 ((x1.wait.length : Int) + (x8.length : Int)) ∧ w64 ((x1.wait.length : Int) + (x8.length : Int)) * 1 ≤ 281474976710656) ∧
    ∃ x18 : List Int, (x18 = List.replicate (w64 ((x1.wait.length : Int) + (x8.length : Int)) : Int).toNat (0 : Int)) ∧
    ∃ x20 : List Int, (x20 = copied x18 0 x18.length x1.wait) ∧
    (0 ≤ (x1.wait.length : Int) ∧ (x1.wait.length : Int) ≤ (x20.length : Int) ∧ (x20.length : Int) ≤ (x20.length : Int)) ∧
    ∃ x25 : List Int, (x25 = copied x20 (((x1.wait.length : Int) : Int).toNat) (((x20.drop ((x1.wait.length : Int) : Int).toNat).take (((((w64 ((x1.wait.length : Int) + (x8.length : Int)) : Int).toNat : Nat) : Int) : Int).toNat - ((x1.wait.length : Int) : Int).toNat)).length) x8) ∧
    Rounds (fun (s : (List ByteArray) × (List Int)) o => rpc_Buffer_Feed_b1 x1 s.1 s.2 o) (([] : List ByteArray), x25) r
  else
    r = (([] : List ByteArray), x1.code, x1)
def rpc_Buffer_Waiting (x1 : rpc_Buffer) (r : Int × rpc_Buffer) : Prop :=
  r = ((x1.wait.length : Int), x1)
def trellislaw26_started_j2 (r31 : rpc_Buffer) (r4 : (List Int) × Int) (x46 : Bool) (r : Bool) : Prop :=
  if x46 = true then
    r = false
  else
    ∃ r54 : (List ByteArray) × Int × rpc_Buffer, (rpc_Buffer_Feed r31 r4.1 r54) ∧
    if r54.2.1 = 0 then
      if (r54.1.length : Int) = 1 then
        (0 ≤ (0 : Int) ∧ (0 : Int) < (r54.1.length : Int)) ∧
        if ix r54.1 0 = (⟨#[123, 125]⟩ : ByteArray) then
          ∃ r77 : Int × rpc_Buffer, (rpc_Buffer_Waiting r54.2.2 r77) ∧
          r = (r77.1 == 0)
        else
          r = false
      else
        r = false
    else
      r = false
def trellislaw26_started_j1 (r4 : (List Int) × Int) (x18 : Bool) (r : Bool) : Prop :=
  if x18 = true then
    r = false
  else
    ∃ r23 : ByteArray × Int × Int, (rpc_Take r4.1 r23) ∧
    ∃ r31 : rpc_Buffer, (rpc_New  r31) ∧
    if r23.2.2 = 0 then
      if r23.1 = (⟨#[123, 125]⟩ : ByteArray) then
        trellislaw26_started_j2 r31 r4 (r23.2.1 != 23) r
      else
        trellislaw26_started_j2 r31 r4 true r
    else
      trellislaw26_started_j2 r31 r4 true r
def trellislaw26_started  (r : Bool) : Prop :=
  ∃ r4 : (List Int) × Int, (rpc_Put (⟨#[123, 125]⟩ : ByteArray) r4) ∧
  if r4.2 = 0 then
    if (r4.1.length : Int) = 23 then
      (0 ≤ (16 : Int) ∧ (16 : Int) < (r4.1.length : Int)) ∧
      trellislaw26_started_j1 r4 ((ix r4.1 16) != 50) r
    else
      trellislaw26_started_j1 r4 true r
  else
    trellislaw26_started_j1 r4 true r
def trellislaw26_RpcBack_j1 (x33 : Bool) (r : Bool) : Prop :=
  r = x33
def trellislaw26_RpcBack_j5 (x7 : Int) (r20 : (List Int) × Int) (x502 : Bool) (o2 : Sum ((List Int) × Int) (Sum ((List Int) × Int) Bool)) : Prop :=
  if x502 = true then
    o2 = .inr (.inr (true))
  else
    (0 ≤ (0 : Int) ∧ (0 : Int) ≤ x7 ∧ x7 ≤ (r20.1.length : Int)) ∧
    ∃ x506 : List Int, (x506 = r20.1.take (x7 : Int).toNat) ∧
    ∃ r512 : ByteArray × Int × Int, (rpc_Take x506 r512) ∧
    if r512.2.2 = 260 then
      if r512.1 = (⟨#[]⟩ : ByteArray) then
        o2 = .inr (.inr ((r512.2.1 == 0)))
      else
        o2 = .inr (.inr (false))
    else
      o2 = .inr (.inr (false))
def trellislaw26_RpcBack_j4 (x7 : Int) (r20 : (List Int) × Int) (x498 : Bool) (o2 : Sum ((List Int) × Int) (Sum ((List Int) × Int) Bool)) : Prop :=
  if x498 = true then
    o2 = .inr (.inr (false))
  else
    if x7 < 0 then
      trellislaw26_RpcBack_j5 x7 r20 true o2
    else
      trellislaw26_RpcBack_j5 x7 r20 (decide (x7 ≥ (r20.1.length : Int))) o2
def trellislaw26_RpcBack_b3 (x2 : List Int) (x1 : ByteArray) (x7 : Int) (r20 : (List Int) × Int) (x422 : List Int) (x427 : Int) (o2 : Sum ((List Int) × Int) (Sum ((List Int) × Int) Bool)) : Prop :=
  if x427 < (x2.length : Int) then
    (0 ≤ x427 ∧ x427 < (x2.length : Int)) ∧
    ∃ x484 : List Int, (x484 = x422 ++ ([ix x2 x427] : List Int)) ∧
    (x484.length * 1 ≤ 211106232532992) ∧
    o2 = .inl (x484, w64 (x427 + 1))
  else
    ∃ r490 : ByteArray × Int × Int, (rpc_Take x422 r490) ∧
    if r490.2.2 = 0 then
      if r490.1 = x1 then
        trellislaw26_RpcBack_j4 x7 r20 (r490.2.1 != (r20.1.length : Int)) o2
      else
        trellislaw26_RpcBack_j4 x7 r20 true o2
    else
      trellislaw26_RpcBack_j4 x7 r20 true o2
def trellislaw26_RpcBack_b2 (r20 : (List Int) × Int) (x2 : List Int) (x1 : ByteArray) (x7 : Int) (x198 : List Int) (x203 : Int) (o1 : Sum ((List Int) × Int) Bool) : Prop :=
  if x203 < (r20.1.length : Int) then
    (0 ≤ x203 ∧ x203 < (r20.1.length : Int)) ∧
    ∃ x371 : List Int, (x371 = x198 ++ ([ix r20.1 x203] : List Int)) ∧
    (x371.length * 1 ≤ 211106232532992) ∧
    o1 = .inl (x371, w64 (x203 + 1))
  else
    Rounds (fun (s : (List Int) × Int) o => trellislaw26_RpcBack_b3 x2 x1 x7 r20 s.1 s.2 o) (x198, 0) o1
def trellislaw26_RpcBack (x1 : ByteArray) (x2 : List Int) (x7 : Int) (r : Bool) : Prop :=
  ∃ r11 : Bool, (trellislaw26_started  r11) ∧
  if r11 = true then
    ∃ r20 : (List Int) × Int, (rpc_Put x1 r20) ∧
    if (x1.size : Int) > 2097152 then
      if r20.2 = 262 then
        trellislaw26_RpcBack_j1 ((r20.1.length : Int) == 0) r
      else
        trellislaw26_RpcBack_j1 false r
    else
      if r20.2 = 0 then
        Rounds (fun (s : (List Int) × Int) o => trellislaw26_RpcBack_b2 r20 x2 x1 x7 s.1 s.2 o) (([] : List Int), 0) r
      else
        r = false
  else
    r = false
def trellislaw26_RpcCanon_j1 (x55 : Bool) (r : Bool) : Prop :=
  r = x55
def trellislaw26_RpcCanon (x1 : List Int) (r : Bool) : Prop :=
  ∃ r9 : Bool, (trellislaw26_started  r9) ∧
  if r9 = true then
    ∃ r18 : ByteArray × Int × Int, (rpc_Take x1 r18) ∧
    if r18.2.2 = 0 then
      ∃ r27 : (List Int) × Int, (rpc_Put r18.1 r27) ∧
      if r27.2 = 0 then
        if r18.2.1 = (r27.1.length : Int) then
          if r18.2.1 ≤ (x1.length : Int) then
            (0 ≤ (0 : Int) ∧ (0 : Int) ≤ r18.2.1 ∧ r18.2.1 ≤ (x1.length : Int)) ∧
            ∃ r45 : Bool, (trellislaw26_sameBytes r27.1 (x1.take (r18.2.1 : Int).toNat) r45) ∧
            r = r45
          else
            r = false
        else
          r = false
      else
        r = false
    else
      if r18.1 = (⟨#[]⟩ : ByteArray) then
        if r18.2.1 = 0 then
          if r18.2.2 = 260 then
            trellislaw26_RpcCanon_j1 true r
          else
            if r18.2.2 = 261 then
              trellislaw26_RpcCanon_j1 true r
            else
              trellislaw26_RpcCanon_j1 (r18.2.2 == 262) r
        else
          trellislaw26_RpcCanon_j1 false r
      else
        trellislaw26_RpcCanon_j1 false r
  else
    r = false
def trellislaw26_feed_b3 (r355 : (List ByteArray) × Int × rpc_Buffer) (x390 : List Int) (x397 : Int) (x162 : Int) (x426 : List ByteArray) (x431 : Int) (o2 : Sum ((List ByteArray) × Int) (Sum ((List ByteArray) × Int × Int × (List Int) × Int) ((List ByteArray) × Int × Int × Bool))) : Prop :=
  if x431 < (r355.1.length : Int) then
    (0 ≤ x431 ∧ x431 < (r355.1.length : Int)) ∧
    ∃ x466 : List ByteArray, (x466 = x426 ++ ([ix r355.1 x431] : List ByteArray)) ∧
    (x466.length * 16 ≤ 211106232532992) ∧
    o2 = .inl (x466, w64 (x431 + 1))
  else
    ∃ r472 : Int × rpc_Buffer, (rpc_Buffer_Waiting (⟨x390, x397⟩ : rpc_Buffer) r472) ∧
    if r472.1 > 2097179 then
      o2 = .inr (.inr ((([] : List ByteArray), 0, 0, false)))
    else
      o2 = .inr (.inl (x426, r355.2.1, w64 (x162 + 1), r472.2.wait, r472.2.code))
def trellislaw26_feed_j2 (r355 : (List ByteArray) × Int × rpc_Buffer) (x162 : Int) (x156 : List ByteArray) (x389 : Bool) (x390 : List Int) (x397 : Int) (o1 : Sum ((List ByteArray) × Int × Int × (List Int) × Int) ((List ByteArray) × Int × Int × Bool)) : Prop :=
  if x389 = true then
    o1 = .inr ((([] : List ByteArray), 0, 0, false))
  else
    Rounds (fun (s : (List ByteArray) × Int) o => trellislaw26_feed_b3 r355 x390 x397 x162 s.1 s.2 o) (x156, 0) o1
def trellislaw26_feed_b1 (x1 : List (List Int)) (x156 : List ByteArray) (x161 : Int) (x162 : Int) (x163 : List Int) (x170 : Int) (o1 : Sum ((List ByteArray) × Int × Int × (List Int) × Int) ((List ByteArray) × Int × Int × Bool)) : Prop :=
  if x162 < (x1.length : Int) then
    (0 ≤ x162 ∧ x162 < (x1.length : Int)) ∧
    ∃ r355 : (List ByteArray) × Int × rpc_Buffer, (rpc_Buffer_Feed (⟨x163, x170⟩ : rpc_Buffer) (ix x1 x162) r355) ∧
    if x161 = 0 then
      trellislaw26_feed_j2 r355 x162 x156 false r355.2.2.wait r355.2.2.code o1
    else
      if r355.2.1 = x161 then
        if (r355.1.length : Int) = 0 then
          ∃ r490 : Int × rpc_Buffer, (rpc_Buffer_Waiting r355.2.2 r490) ∧
          trellislaw26_feed_j2 r355 x162 x156 (r490.1 != 0) r490.2.wait r490.2.code o1
        else
          trellislaw26_feed_j2 r355 x162 x156 true r355.2.2.wait r355.2.2.code o1
      else
        trellislaw26_feed_j2 r355 x162 x156 true r355.2.2.wait r355.2.2.code o1
  else
    ∃ r504 : Int × rpc_Buffer, (rpc_Buffer_Waiting (⟨x163, x170⟩ : rpc_Buffer) r504) ∧
    o1 = .inr ((x156, x161, r504.1, true))
def trellislaw26_feed (x1 : List (List Int)) (r : (List ByteArray) × Int × Int × Bool) : Prop :=
  ∃ r9 : rpc_Buffer, (rpc_New  r9) ∧
  Rounds (fun (s : (List ByteArray) × Int × Int × (List Int) × Int) o => trellislaw26_feed_b1 x1 s.1 s.2.1 s.2.2.1 s.2.2.2.1 s.2.2.2.2 o) (([] : List ByteArray), 0, 0, r9.wait, r9.code) r
def trellislaw26_sameTexts_b1 (x1 : List ByteArray) (x6 : List ByteArray) (x23 : Int) (o1 : Sum Int Bool) : Prop :=
  if x23 < (x1.length : Int) then
    (0 ≤ x23 ∧ x23 < (x1.length : Int)) ∧
    (0 ≤ x23 ∧ x23 < (x6.length : Int)) ∧
    if ix x1 x23 = ix x6 x23 then
      o1 = .inl (w64 (x23 + 1))
    else
      o1 = .inr (false)
  else
    o1 = .inr (true)
def trellislaw26_sameTexts (x1 : List ByteArray) (x6 : List ByteArray) (r : Bool) : Prop :=
  if (x1.length : Int) = (x6.length : Int) then
    Rounds (fun (s : Int) o => trellislaw26_sameTexts_b1 x1 x6 s o) 0 r
  else
    r = false
def trellislaw26_RpcPieces_b2 (x154 : Int) (x1 : List (List Int)) (x319 : List Int) (x324 : Int) (o2 : Sum ((List Int) × Int) (Sum ((List Int) × Int) Bool)) : Prop :=
  (0 ≤ x154 ∧ x154 < (x1.length : Int)) ∧
  if x324 < ((ix x1 x154).length : Int) then
    (0 ≤ x324 ∧ x324 < ((ix x1 x154).length : Int)) ∧
    ∃ x376 : List Int, (x376 = x319 ++ ([ix (ix x1 x154) x324] : List Int)) ∧
    (x376.length * 1 ≤ 211106232532992) ∧
    o2 = .inl (x376, w64 (x324 + 1))
  else
    o2 = .inr (.inl (x319, w64 (x154 + 1)))
def trellislaw26_RpcPieces_b1 (x1 : List (List Int)) (x149 : List Int) (x154 : Int) (o1 : Sum ((List Int) × Int) Bool) : Prop :=
  if x154 < (x1.length : Int) then
    Rounds (fun (s : (List Int) × Int) o => trellislaw26_RpcPieces_b2 x154 x1 s.1 s.2 o) (x149, 0) o1
  else
    ∃ r382 : (List ByteArray) × Int × Int × Bool, (trellislaw26_feed x1 r382) ∧
    ∃ r402 : (List ByteArray) × Int × Int × Bool, (trellislaw26_feed ([x149] : List (List Int)) r402) ∧
    if r382.2.2.2 = true then
      if r402.2.2.2 = true then
        ∃ r417 : Bool, (trellislaw26_sameTexts r382.1 r402.1 r417) ∧
        if r417 = true then
          if r382.2.2.1 = r402.2.2.1 then
            if r382.2.1 = r402.2.1 then
              o1 = .inr (true)
            else
              o1 = .inr (((x1.length : Int) == 0))
          else
            o1 = .inr (false)
        else
          o1 = .inr (false)
      else
        o1 = .inr (false)
    else
      o1 = .inr (false)
def trellislaw26_RpcPieces (x1 : List (List Int)) (r : Bool) : Prop :=
  ∃ r9 : Bool, (trellislaw26_started  r9) ∧
  if r9 = true then
    Rounds (fun (s : (List Int) × Int) o => trellislaw26_RpcPieces_b1 x1 s.1 s.2 o) (([] : List Int), 0) r
  else
    r = false
def trellislaw26_RpcCarries_b2 (r996 : (List Int) × Int) (x392 : List Int) (x397 : Int) (x1028 : List Int) (x1033 : Int) (o2 : Sum ((List Int) × Int) (Sum ((List Int) × (List Int) × Int) Bool)) : Prop :=
  if x1033 < (r996.1.length : Int) then
    (0 ≤ x1033 ∧ x1033 < (r996.1.length : Int)) ∧
    ∃ x1062 : List Int, (x1062 = x1028 ++ ([ix r996.1 x1033] : List Int)) ∧
    (x1062.length * 1 ≤ 211106232532992) ∧
    o2 = .inl (x1062, w64 (x1033 + 1))
  else
    ∃ x1071 : List Int, (x1071 = x392 ++ ([(x1028.length : Int)] : List Int)) ∧
    (x1071.length * 8 ≤ 211106232532992) ∧
    o2 = .inr (.inl (x1028, x1071, w64 (x397 + 1)))
def trellislaw26_RpcCarries_j8 (x1266 : Int) (x1085 : List Int) (x1257 : List (List Int)) (x1267 : Int) (x1431 : Int) (o2 : Sum ((List (List Int)) × Int × Int) (Sum ((List Int) × (List Int) × Int) Bool)) : Prop :=
  (0 ≤ x1266 ∧ x1266 ≤ w64 (x1266 + x1431) ∧ w64 (x1266 + x1431) ≤ (x1085.length : Int)) ∧
  ∃ x1444 : List (List Int), (x1444 = x1257 ++ ([((x1085.take (w64 (x1266 + x1431) : Int).toNat).drop (x1266 : Int).toNat)] : List (List Int))) ∧
  (x1444.length * 24 ≤ 211106232532992) ∧
  o2 = .inl (x1444, w64 (x1266 + x1431), w64 (x1267 + 1))
def trellislaw26_RpcCarries_j7 (x1085 : List Int) (x1266 : Int) (x1257 : List (List Int)) (x1267 : Int) (x1428 : Int) (o2 : Sum ((List (List Int)) × Int × Int) (Sum ((List Int) × (List Int) × Int) Bool)) : Prop :=
  if x1428 > w64 ((x1085.length : Int) - x1266) then
    trellislaw26_RpcCarries_j8 x1266 x1085 x1257 x1267 (w64 ((x1085.length : Int) - x1266)) o2
  else
    trellislaw26_RpcCarries_j8 x1266 x1085 x1257 x1267 x1428 o2
def trellislaw26_RpcCarries_b9 (x392 : List Int) (x1085 : List Int) (r1471 : (List ByteArray) × Int × Int × Bool) (x1 : List ByteArray) (x1511 : Int) (x1512 : Int) (o3 : Sum (Int × Int) (Sum ((List (List Int)) × Int × Int) (Sum ((List Int) × (List Int) × Int) Bool))) : Prop :=
  if x1511 < (x392.length : Int) then
    (0 ≤ x1511 ∧ x1511 < (x392.length : Int)) ∧
    if ix x392 x1511 ≤ (x1085.length : Int) then
      o3 = .inl (w64 (x1511 + 1), ix x392 x1511)
    else
      if r1471.2.2.2 = true then
        if r1471.2.1 = 0 then
          (0 ≤ (0 : Int) ∧ (0 : Int) ≤ x1511 ∧ x1511 ≤ (x1.length : Int)) ∧
          ∃ r1552 : Bool, (trellislaw26_sameTexts r1471.1 (x1.take (x1511 : Int).toNat) r1552) ∧
          if r1552 = true then
            o3 = .inr (.inr (.inr ((r1471.2.2.1 == (w64 ((x1085.length : Int) - x1512))))))
          else
            o3 = .inr (.inr (.inr (false)))
        else
          o3 = .inr (.inr (.inr (false)))
      else
        o3 = .inr (.inr (.inr (false)))
  else
    if r1471.2.2.2 = true then
      if r1471.2.1 = 0 then
        (0 ≤ (0 : Int) ∧ (0 : Int) ≤ x1511 ∧ x1511 ≤ (x1.length : Int)) ∧
        ∃ r1565 : Bool, (trellislaw26_sameTexts r1471.1 (x1.take (x1511 : Int).toNat) r1565) ∧
        if r1565 = true then
          o3 = .inr (.inr (.inr ((r1471.2.2.1 == (w64 ((x1085.length : Int) - x1512))))))
        else
          o3 = .inr (.inr (.inr (false)))
      else
        o3 = .inr (.inr (.inr (false)))
    else
      o3 = .inr (.inr (.inr (false)))
def trellislaw26_RpcCarries_j6 (x1267 : Int) (x6 : List Int) (x1085 : List Int) (x1266 : Int) (x1257 : List (List Int)) (x392 : List Int) (x1 : List ByteArray) (x1422 : Bool) (o2 : Sum ((List (List Int)) × Int × Int) (Sum ((List Int) × (List Int) × Int) Bool)) : Prop :=
  if x1422 = true then
    (0 ≤ x1267 ∧ x1267 < (x6.length : Int)) ∧
    if ix x6 x1267 < 0 then
      trellislaw26_RpcCarries_j7 x1085 x1266 x1257 x1267 0 o2
    else
      trellislaw26_RpcCarries_j7 x1085 x1266 x1257 x1267 (ix x6 x1267) o2
  else
    (0 ≤ x1266 ∧ x1266 ≤ (x1085.length : Int) ∧ (x1085.length : Int) ≤ (x1085.length : Int)) ∧
    ∃ x1462 : List (List Int), (x1462 = x1257 ++ ([(x1085.drop (x1266 : Int).toNat)] : List (List Int))) ∧
    (x1462.length * 24 ≤ 211106232532992) ∧
    ∃ r1471 : (List ByteArray) × Int × Int × Bool, (trellislaw26_feed x1462 r1471) ∧
    Rounds (fun (s : Int × Int) o => trellislaw26_RpcCarries_b9 x392 x1085 r1471 x1 s.1 s.2 o) (0, 0) o2
def trellislaw26_RpcCarries_b5 (x6 : List Int) (x1085 : List Int) (x392 : List Int) (x1 : List ByteArray) (x1257 : List (List Int)) (x1266 : Int) (x1267 : Int) (o2 : Sum ((List (List Int)) × Int × Int) (Sum ((List Int) × (List Int) × Int) Bool)) : Prop :=
  if x1267 < (x6.length : Int) then
    trellislaw26_RpcCarries_j6 x1267 x6 x1085 x1266 x1257 x392 x1 (decide (x1266 < (x1085.length : Int))) o2
  else
    trellislaw26_RpcCarries_j6 x1267 x6 x1085 x1266 x1257 x392 x1 false o2
def trellislaw26_RpcCarries_j4 (x6 : List Int) (x392 : List Int) (x1 : List ByteArray) (x1085 : List Int) (o1 : Sum ((List Int) × (List Int) × Int) Bool) : Prop :=
  Rounds (fun (s : (List (List Int)) × Int × Int) o => trellislaw26_RpcCarries_b5 x6 x1085 x392 x1 s.1 s.2.1 s.2.2 o) (([] : List (List Int)), 0, 0) o1
def trellislaw26_RpcCarries_j3 (x387 : List Int) (x11 : Int) (x6 : List Int) (x392 : List Int) (x1 : List ByteArray) (x1077 : Bool) (o1 : Sum ((List Int) × (List Int) × Int) Bool) : Prop :=
  if x1077 = true then
    (0 ≤ (0 : Int) ∧ (0 : Int) ≤ w64 ((x387.length : Int) - x11) ∧ w64 ((x387.length : Int) - x11) ≤ (x387.length : Int)) ∧
    ∃ x1577 : List Int, (x1577 = x387.take (w64 ((x387.length : Int) - x11) : Int).toNat) ∧
    trellislaw26_RpcCarries_j4 x6 x392 x1 x1577 o1
  else
    trellislaw26_RpcCarries_j4 x6 x392 x1 x387 o1
def trellislaw26_RpcCarries_b1 (x1 : List ByteArray) (x11 : Int) (x6 : List Int) (x387 : List Int) (x392 : List Int) (x397 : Int) (o1 : Sum ((List Int) × (List Int) × Int) Bool) : Prop :=
  if x397 < (x1.length : Int) then
    (0 ≤ x397 ∧ x397 < (x1.length : Int)) ∧
    ∃ r996 : (List Int) × Int, (rpc_Put (ix x1 x397) r996) ∧
    if r996.2 = 0 then
      Rounds (fun (s : (List Int) × Int) o => trellislaw26_RpcCarries_b2 r996 x392 x397 s.1 s.2 o) (x387, 0) o1
    else
      o1 = .inr (decide (((ix x1 x397).size : Int) > 2097152))
  else
    if x11 > 0 then
      trellislaw26_RpcCarries_j3 x387 x11 x6 x392 x1 (decide (x11 ≤ (x387.length : Int))) o1
    else
      trellislaw26_RpcCarries_j3 x387 x11 x6 x392 x1 false o1
def trellislaw26_RpcCarries (x1 : List ByteArray) (x6 : List Int) (x11 : Int) (r : Bool) : Prop :=
  ∃ r15 : Bool, (trellislaw26_started  r15) ∧
  if r15 = true then
    Rounds (fun (s : (List Int) × (List Int) × Int) o => trellislaw26_RpcCarries_b1 x1 x11 x6 s.1 s.2.1 s.2.2 o) (([] : List Int), ([] : List Int), 0) r
  else
    r = false
def internal_strconv_log10Pow2 (x1 : Int) (r : Int) : Prop :=
  r = shrV .i64 (w64 (x1 * 78913)) 18
def internal_strconv_bool2_int (x1 : Bool) (r : Int) : Prop :=
  if x1 = true then
    r = 1
  else
    r = 0
def internal_strconv_isPowerOfTwo (x1 : Int) (r : Bool) : Prop :=
  r = ((bits .and .i64 x1 (w64 (x1 - 1))) == 0)
end Go.Proofs.YtbejkaeidnajkaaDoor.R
