/- What the functions answer, as plain relations, printed by my own tool off the program's translation. No condition. -/
import Derived.Test.YtkaejoffnkhbpaaP0
set_option linter.unusedVariables false
namespace Go.Proofs.Ytkaejoffnkhbpaa.R
open Go.Proofs.Ytkaejoffnkhbpaa.B
structure api_Word where
  kind : Int
  text : ByteArray
  n : Int
  at_ : Int
  deriving Inhabited, DecidableEq
def words_blank (x1 : Int) (r : Bool) : Prop :=
  if x1 = 32 then
    r = true
  else
    if x1 = 9 then
      r = true
    else
      if x1 = 13 then
        r = true
      else
        r = (x1 == 10)
def words_letter (x1 : Int) (r : Bool) : Prop :=
  if x1 ≥ 97 then
    if x1 ≤ 122 then
      r = true
    else
      if x1 ≥ 65 then
        if x1 ≤ 90 then
          r = true
        else
          r = (x1 == 95)
      else
        r = (x1 == 95)
  else
    if x1 ≥ 65 then
      if x1 ≤ 90 then
        r = true
      else
        r = (x1 == 95)
    else
      r = (x1 == 95)
def words_digit (x1 : Int) (r : Bool) : Prop :=
  if x1 ≥ 48 then
    r = decide (x1 ≤ 57)
  else
    r = false
def internal_stringslite_IndexByte (x1 : ByteArray) (x2 : Int) (r : Int) : Prop :=
  r = idxB x1 x2
def strings_IndexByte (x1 : ByteArray) (x2 : Int) (r : Int) : Prop :=
  ∃ r5 : Int, (internal_stringslite_IndexByte x1 x2 r5) ∧
  r = r5
def words_hex_j2 (x1 : Int) (x13 : Bool) (r : Int × Bool) : Prop :=
  if x13 = true then
    r = (IntKind.u8.wrap ((IntKind.u8.wrap (x1 - 65)) + 10), true)
  else
    r = (0, false)
def words_hex_j1 (x1 : Int) (x10 : Bool) (r : Int × Bool) : Prop :=
  if x10 = true then
    r = (IntKind.u8.wrap ((IntKind.u8.wrap (x1 - 97)) + 10), true)
  else
    if x1 ≥ 65 then
      words_hex_j2 x1 (decide (x1 ≤ 70)) r
    else
      words_hex_j2 x1 false r
def words_hex (x1 : Int) (r : Int × Bool) : Prop :=
  ∃ r4 : Bool, (words_digit x1 r4) ∧
  if r4 = true then
    r = (IntKind.u8.wrap (x1 - 48), true)
  else
    if x1 ≥ 97 then
      words_hex_j1 x1 (decide (x1 ≤ 102)) r
    else
      words_hex_j1 x1 false r
def words_escape_j2 (r16 : Int × Bool) (r23 : Int × Bool) (x28 : Bool) (r : Int × Int) : Prop :=
  if x28 = true then
    r = (IntKind.u8.wrap ((IntKind.u8.wrap (16 * r16.1)) + r23.1), 4)
  else
    r = (0, 0)
def words_escape_j1 (x1 : ByteArray) (x2 : Int) (x6 : Bool) (r : Int × Int) : Prop :=
  if x6 = true then
    r = (bt x1 (w64 (x2 + 1)), 2)
  else
    if bt x1 (w64 (x2 + 1)) = 110 then
      r = (10, 2)
    else
      if bt x1 (w64 (x2 + 1)) = 116 then
        r = (9, 2)
      else
        if bt x1 (w64 (x2 + 1)) = 114 then
          r = (13, 2)
        else
          if bt x1 (w64 (x2 + 1)) = 120 then
            if w64 (x2 + 3) < (x1.size : Int) then
              (0 ≤ w64 (x2 + 2) ∧ w64 (x2 + 2) < (x1.size : Int)) ∧
              ∃ r16 : Int × Bool, (words_hex (bt x1 (w64 (x2 + 2))) r16) ∧
              (0 ≤ w64 (x2 + 3) ∧ w64 (x2 + 3) < (x1.size : Int)) ∧
              ∃ r23 : Int × Bool, (words_hex (bt x1 (w64 (x2 + 3))) r23) ∧
              if r16.2 = true then
                words_escape_j2 r16 r23 r23.2 r
              else
                words_escape_j2 r16 r23 false r
            else
              r = (0, 0)
          else
            r = (0, 0)
def words_escape (x1 : ByteArray) (x2 : Int) (r : Int × Int) : Prop :=
  if w64 (x2 + 1) ≥ (x1.size : Int) then
    r = (0, 0)
  else
    (0 ≤ w64 (x2 + 1) ∧ w64 (x2 + 1) < (x1.size : Int)) ∧
    if bt x1 (w64 (x2 + 1)) = 34 then
      words_escape_j1 x1 x2 ((bt x1 (w64 (x2 + 1))) == 34) r
    else
      words_escape_j1 x1 x2 ((bt x1 (w64 (x2 + 1))) == 92) r
def words_quoted_j2 (x2 : Int) (x51 : Int) (x1 : ByteArray) (x43 : List Int) (x106 : Bool) (o1 : Sum ((List Int) × Int) ((List Int) × Int × Int)) : Prop :=
  if x106 = true then
    o1 = .inr ((([] : List Int), 82, x2))
  else
    (0 ≤ x51 ∧ x51 < (x1.size : Int)) ∧
    if bt x1 x51 = 34 then
      o1 = .inr ((x43, 0, w64 (x51 + 1)))
    else
      if bt x1 x51 = 92 then
        ∃ r113 : Int × Int, (words_escape x1 x51 r113) ∧
        if r113.2 = 0 then
          o1 = .inr ((([] : List Int), 82, x51))
        else
          ∃ x125 : List Int, (x125 = x43 ++ ([r113.1] : List Int)) ∧
          (x125.length ≤ 4294967296) ∧
          o1 = .inl (x125, w64 (x51 + r113.2))
      else
        ∃ x136 : List Int, (x136 = x43 ++ ([bt x1 x51] : List Int)) ∧
        (x136.length ≤ 4294967296) ∧
        o1 = .inl (x136, w64 (x51 + 1))
def words_quoted_b1 (x1 : ByteArray) (x2 : Int) (x43 : List Int) (x51 : Int) (o1 : Sum ((List Int) × Int) ((List Int) × Int × Int)) : Prop :=
  if x51 = (x1.size : Int) then
    words_quoted_j2 x2 x51 x1 x43 true o1
  else
    (0 ≤ x51 ∧ x51 < (x1.size : Int)) ∧
    words_quoted_j2 x2 x51 x1 x43 ((bt x1 x51) == 10) o1
def words_quoted (x1 : ByteArray) (x2 : Int) (r : (List Int) × Int × Int) : Prop :=
  Rounds (fun (s : (List Int) × Int) o => words_quoted_b1 x1 x2 s.1 s.2 o) (([] : List Int), w64 (x2 + 1)) r
def words_slashed_j3 (x106 : Int) (x150 : Bool) (o1 : Sum Int ((List Int) × Int × Int)) : Prop :=
  if x150 = true then
    o1 = .inl (w64 ((w64 (x106 + 1)) + 1))
  else
    o1 = .inl (w64 (x106 + 1))
def words_slashed_j2 (x80 : Int) (x106 : Int) (x79 : ByteArray) (x134 : Bool) (o1 : Sum Int ((List Int) × Int × Int)) : Prop :=
  if x134 = true then
    o1 = .inr ((([] : List Int), 82, x80))
  else
    (0 ≤ x106 ∧ x106 < (x79.size : Int)) ∧
    if bt x79 x106 = 47 then
      (0 ≤ w64 (x80 + 1) ∧ w64 (x80 + 1) ≤ x106 ∧ x106 ≤ (x79.size : Int)) ∧
      ((x79.extract (w64 (x80 + 1) : Int).toNat (x106 : Int).toNat).size ≤ 4294967296) ∧
      o1 = .inr ((bsOf (x79.extract (w64 (x80 + 1) : Int).toNat (x106 : Int).toNat), 0, w64 (x106 + 1)))
    else
      if bt x79 x106 = 92 then
        if w64 (x106 + 1) < (x79.size : Int) then
          (0 ≤ w64 (x106 + 1) ∧ w64 (x106 + 1) < (x79.size : Int)) ∧
          words_slashed_j3 x106 ((bt x79 (w64 (x106 + 1))) != 10) o1
        else
          words_slashed_j3 x106 false o1
      else
        words_slashed_j3 x106 false o1
def words_slashed_b1 (x79 : ByteArray) (x80 : Int) (x106 : Int) (o1 : Sum Int ((List Int) × Int × Int)) : Prop :=
  if x106 = (x79.size : Int) then
    words_slashed_j2 x80 x106 x79 true o1
  else
    (0 ≤ x106 ∧ x106 < (x79.size : Int)) ∧
    words_slashed_j2 x80 x106 x79 ((bt x79 x106) == 10) o1
def words_slashed (x79 : ByteArray) (x80 : Int) (r : (List Int) × Int × Int) : Prop :=
  Rounds (fun (s : Int) o => words_slashed_b1 x79 x80 s o) (w64 (x80 + 1)) r
def words_Cut_j3 (x931 : Int) (x405 : List api_Word) (x954 : Bool) (o2 : Sum Int (Sum ((List api_Word) × Int) ((List api_Word) × Int × Int))) : Prop :=
  if x954 = true then
    o2 = .inl (w64 (x931 + 1))
  else
    o2 = .inr (.inl (x405, x931))
def words_Cut_b2 (x1 : ByteArray) (x405 : List api_Word) (x931 : Int) (o2 : Sum Int (Sum ((List api_Word) × Int) ((List api_Word) × Int × Int))) : Prop :=
  if x931 < (x1.size : Int) then
    (0 ≤ x931 ∧ x931 < (x1.size : Int)) ∧
    words_Cut_j3 x931 x405 ((bt x1 x931) != 10) o2
  else
    words_Cut_j3 x931 x405 false o2
def words_Cut_j5 (x1022 : Int) (x413 : Int) (x1 : ByteArray) (x405 : List api_Word) (x1097 : Bool) (o2 : Sum Int (Sum ((List api_Word) × Int) ((List api_Word) × Int × Int))) : Prop :=
  if x1097 = true then
    o2 = .inl (w64 (x1022 + 1))
  else
    if w64 (x1022 - x413) > 24 then
      o2 = .inr (.inr ((([] : List api_Word), 83, x413)))
    else
      (0 ≤ x413 ∧ x413 ≤ x1022 ∧ x1022 ≤ (x1.size : Int)) ∧
      ∃ x1108 : List api_Word, (x1108 = x405 ++ ([(⟨1, x1.extract (x413 : Int).toNat (x1022 : Int).toNat, 0, x413⟩ : api_Word)] : List api_Word)) ∧
      (x1108.length ≤ 4294967296) ∧
      o2 = .inr (.inl (x1108, x1022))
def words_Cut_b4 (x1 : ByteArray) (x413 : Int) (x405 : List api_Word) (x1022 : Int) (o2 : Sum Int (Sum ((List api_Word) × Int) ((List api_Word) × Int × Int))) : Prop :=
  if x1022 < (x1.size : Int) then
    (0 ≤ x1022 ∧ x1022 < (x1.size : Int)) ∧
    ∃ r1116 : Bool, (words_letter (bt x1 x1022) r1116) ∧
    if r1116 = true then
      words_Cut_j5 x1022 x413 x1 x405 true o2
    else
      ∃ r1123 : Bool, (words_digit (bt x1 x1022) r1123) ∧
      words_Cut_j5 x1022 x413 x1 x405 r1123 o2
  else
    words_Cut_j5 x1022 x413 x1 x405 false o2
def words_Cut_j7 (x1175 : Int) (x1 : ByteArray) (x1176 : Int) (x413 : Int) (x405 : List api_Word) (x1230 : Bool) (o2 : Sum (Int × Int) (Sum ((List api_Word) × Int) ((List api_Word) × Int × Int))) : Prop :=
  if x1230 = true then
    (0 ≤ x1175 ∧ x1175 < (x1.size : Int)) ∧
    o2 = .inl (w64 (x1175 + 1), min (w64 ((w64 (10 * x1176)) + (w64 (IntKind.u8.wrap ((bt x1 x1175) - 48))))) 65536)
  else
    if x1176 > 65535 then
      o2 = .inr (.inr ((([] : List api_Word), 84, x413)))
    else
      ∃ x1241 : List api_Word, (x1241 = x405 ++ ([(⟨4, (⟨#[]⟩ : ByteArray), x1176, x413⟩ : api_Word)] : List api_Word)) ∧
      (x1241.length ≤ 4294967296) ∧
      o2 = .inr (.inl (x1241, x1175))
def words_Cut_b6 (x1 : ByteArray) (x413 : Int) (x405 : List api_Word) (x1175 : Int) (x1176 : Int) (o2 : Sum (Int × Int) (Sum ((List api_Word) × Int) ((List api_Word) × Int × Int))) : Prop :=
  if x1175 < (x1.size : Int) then
    (0 ≤ x1175 ∧ x1175 < (x1.size : Int)) ∧
    ∃ r1249 : Bool, (words_digit (bt x1 x1175) r1249) ∧
    words_Cut_j7 x1175 x1 x1176 x413 x405 r1249 o2
  else
    words_Cut_j7 x1175 x1 x1176 x413 x405 false o2
def words_Cut_b1 (x1 : ByteArray) (x405 : List api_Word) (x413 : Int) (o1 : Sum ((List api_Word) × Int) ((List api_Word) × Int × Int)) : Prop :=
  if x413 = (x1.size : Int) then
    o1 = .inr ((x405, 0, 0))
  else
    (0 ≤ x413 ∧ x413 < (x1.size : Int)) ∧
    ∃ r907 : Bool, (words_blank (bt x1 x413) r907) ∧
    if r907 = true then
      o1 = .inl (x405, w64 (x413 + 1))
    else
      if bt x1 x413 = 35 then
        Rounds (fun (s : Int) o => words_Cut_b2 x1 x405 s o) x413 o1
      else
        ∃ r960 : Bool, (words_letter (bt x1 x413) r960) ∧
        if r960 = true then
          Rounds (fun (s : Int) o => words_Cut_b4 x1 x413 x405 s o) x413 o1
        else
          ∃ r1129 : Bool, (words_digit (bt x1 x413) r1129) ∧
          if r1129 = true then
            Rounds (fun (s : Int × Int) o => words_Cut_b6 x1 x413 x405 s.1 s.2 o) (x413, 0) o1
          else
            if bt x1 x413 = 34 then
              ∃ r1288 : (List Int) × Int × Int, (words_quoted x1 x413 r1288) ∧
              if r1288.2.1 = 0 then
                ∃ x1307 : List api_Word, (x1307 = x405 ++ ([(⟨2, ofBs r1288.1, 0, x413⟩ : api_Word)] : List api_Word)) ∧
                (x1307.length ≤ 4294967296) ∧
                o1 = .inl (x1307, r1288.2.2)
              else
                o1 = .inr ((([] : List api_Word), r1288.2.1, r1288.2.2))
            else
              if bt x1 x413 = 47 then
                ∃ r1348 : (List Int) × Int × Int, (words_slashed x1 x413 r1348) ∧
                if r1348.2.1 = 0 then
                  ∃ x1369 : List api_Word, (x1369 = x405 ++ ([(⟨3, ofBs r1348.1, 0, x413⟩ : api_Word)] : List api_Word)) ∧
                  (x1369.length ≤ 4294967296) ∧
                  o1 = .inl (x1369, r1348.2.2)
                else
                  o1 = .inr ((([] : List api_Word), r1348.2.1, r1348.2.2))
              else
                ∃ r1375 : Int, (strings_IndexByte (⟨#[123, 125, 40, 41, 124, 42, 43, 63, 58, 59, 44, 61, 64]⟩ : ByteArray) (bt x1 x413) r1375) ∧
                if r1375 ≥ 0 then
                  (0 ≤ x413 ∧ x413 ≤ w64 (x413 + 1) ∧ w64 (x413 + 1) ≤ (x1.size : Int)) ∧
                  ∃ x1388 : List api_Word, (x1388 = x405 ++ ([(⟨5, x1.extract (x413 : Int).toNat (w64 (x413 + 1) : Int).toNat, 0, x413⟩ : api_Word)] : List api_Word)) ∧
                  (x1388.length ≤ 4294967296) ∧
                  o1 = .inl (x1388, w64 (x413 + 1))
                else
                  o1 = .inr ((([] : List api_Word), 81, x413))
def words_Cut (x1 : ByteArray) (r : (List api_Word) × Int × Int) : Prop :=
  if (x1.size : Int) > 16384 then
    r = (([] : List api_Word), 80, 16384)
  else
    Rounds (fun (s : (List api_Word) × Int) o => words_Cut_b1 x1 s.1 s.2 o) (([] : List api_Word), 0) r
def trellisref8_in_b1 (x1 : ByteArray) (x2 : Int) (x6 : Int) (o1 : Sum Int Bool) : Prop :=
  if x6 < (x1.size : Int) then
    (0 ≤ x6 ∧ x6 < (x1.size : Int)) ∧
    if bt x1 x6 = x2 then
      o1 = .inr (true)
    else
      o1 = .inl (w64 (x6 + 1))
  else
    o1 = .inr (false)
def trellisref8_in (x1 : ByteArray) (x2 : Int) (r : Bool) : Prop :=
  Rounds (fun (s : Int) o => trellisref8_in_b1 x1 x2 s o) 0 r
def trellisref8_run_b1 (x2 : Int) (x1 : ByteArray) (x3 : ByteArray) (x13 : Int) (o1 : Sum Int Int) : Prop :=
  if w64 (x2 + x13) < (x1.size : Int) then
    (0 ≤ w64 (x2 + x13) ∧ w64 (x2 + x13) < (x1.size : Int)) ∧
    ∃ r27 : Bool, (trellisref8_in x3 (bt x1 (w64 (x2 + x13))) r27) ∧
    if r27 = true then
      o1 = .inl (w64 (x13 + 1))
    else
      o1 = .inr (x13)
  else
    o1 = .inr (x13)
def trellisref8_run (x1 : ByteArray) (x2 : Int) (x3 : ByteArray) (r : Int) : Prop :=
  Rounds (fun (s : Int) o => trellisref8_run_b1 x2 x1 x3 s o) 0 r
def trellisref8_number_b1 (x1 : ByteArray) (x5 : Int) (x6 : Int) (o1 : Sum (Int × Int) Int) : Prop :=
  if x6 < (x1.size : Int) then
    (0 ≤ x6 ∧ x6 < (x1.size : Int)) ∧
    if w64 ((w64 (10 * x5)) + (w64 (IntKind.u8.wrap ((bt x1 x6) - 48)))) > 65535 then
      o1 = .inl (65536, w64 (x6 + 1))
    else
      o1 = .inl (w64 ((w64 (10 * x5)) + (w64 (IntKind.u8.wrap ((bt x1 x6) - 48)))), w64 (x6 + 1))
  else
    o1 = .inr (x5)
def trellisref8_number (x1 : ByteArray) (r : Int) : Prop :=
  Rounds (fun (s : Int × Int) o => trellisref8_number_b1 x1 s.1 s.2 o) (0, 0) r
def trellisref8_hex_b1 (x1 : Int) (x4 : Int) (o1 : Sum Int Int) : Prop :=
  if x4 < 16 then
    (0 ≤ x4 ∧ x4 < ((⟨#[48, 49, 50, 51, 52, 53, 54, 55, 56, 57, 97, 98, 99, 100, 101, 102, 65, 66, 67, 68, 69, 70]⟩ : ByteArray).size : Int)) ∧
    if bt (⟨#[48, 49, 50, 51, 52, 53, 54, 55, 56, 57, 97, 98, 99, 100, 101, 102, 65, 66, 67, 68, 69, 70]⟩ : ByteArray) x4 = x1 then
      o1 = .inr (x4)
    else
      o1 = .inl (w64 (x4 + 1))
  else
    o1 = .inr (w64 ((w64 (IntKind.u8.wrap (x1 - 65))) + 10))
def trellisref8_hex (x1 : Int) (r : Int) : Prop :=
  Rounds (fun (s : Int) o => trellisref8_hex_b1 x1 s o) 0 r
def trellisref8_Escape (x1 : ByteArray) (x2 : Int) (r : Int × Int) : Prop :=
  if w64 (x2 + 1) ≥ (x1.size : Int) then
    r = (0, 0)
  else
    (0 ≤ w64 (x2 + 1) ∧ w64 (x2 + 1) < (x1.size : Int)) ∧
    if bt x1 (w64 (x2 + 1)) = 34 then
      r = (2, 34)
    else
      if bt x1 (w64 (x2 + 1)) = 92 then
        r = (2, 92)
      else
        if bt x1 (w64 (x2 + 1)) = 110 then
          r = (2, 10)
        else
          if bt x1 (w64 (x2 + 1)) = 116 then
            r = (2, 9)
          else
            if bt x1 (w64 (x2 + 1)) = 114 then
              r = (2, 13)
            else
              if bt x1 (w64 (x2 + 1)) = 120 then
                ∃ r13 : Int, (trellisref8_run x1 (w64 (x2 + 2)) (⟨#[48, 49, 50, 51, 52, 53, 54, 55, 56, 57, 97, 98, 99, 100, 101, 102, 65, 66, 67, 68, 69, 70]⟩ : ByteArray) r13) ∧
                if r13 ≥ 2 then
                  (0 ≤ w64 (x2 + 2) ∧ w64 (x2 + 2) < (x1.size : Int)) ∧
                  ∃ r21 : Int, (trellisref8_hex (bt x1 (w64 (x2 + 2))) r21) ∧
                  (0 ≤ w64 (x2 + 3) ∧ w64 (x2 + 3) < (x1.size : Int)) ∧
                  ∃ r28 : Int, (trellisref8_hex (bt x1 (w64 (x2 + 3))) r28) ∧
                  r = (4, IntKind.u8.wrap (w64 ((w64 (16 * r21)) + r28)))
                else
                  r = (0, 0)
              else
                r = (0, 0)
def trellisref8_str_j2 (x51 : Int) (x1 : ByteArray) (x43 : List Int) (x2 : Int) (x106 : Bool) (o1 : Sum ((List Int) × Int) (Int × ByteArray × Int × Int)) : Prop :=
  if x106 = true then
    (0 ≤ x51 ∧ x51 < (x1.size : Int)) ∧
    if bt x1 x51 = 34 then
      o1 = .inr ((w64 (x51 + 1), ofBs x43, 0, 0))
    else
      if bt x1 x51 = 92 then
        ∃ r113 : Int × Int, (trellisref8_Escape x1 x51 r113) ∧
        if r113.1 = 0 then
          o1 = .inr ((0, (⟨#[]⟩ : ByteArray), 82, x51))
        else
          ∃ x125 : List Int, (x125 = x43 ++ ([r113.2] : List Int)) ∧
          (x125.length ≤ 4294967296) ∧
          o1 = .inl (x125, w64 (x51 + r113.1))
      else
        ∃ x136 : List Int, (x136 = x43 ++ ([bt x1 x51] : List Int)) ∧
        (x136.length ≤ 4294967296) ∧
        o1 = .inl (x136, w64 (x51 + 1))
  else
    o1 = .inr ((0, (⟨#[]⟩ : ByteArray), 82, x2))
def trellisref8_str_b1 (x1 : ByteArray) (x2 : Int) (x43 : List Int) (x51 : Int) (o1 : Sum ((List Int) × Int) (Int × ByteArray × Int × Int)) : Prop :=
  if x51 < (x1.size : Int) then
    (0 ≤ x51 ∧ x51 < (x1.size : Int)) ∧
    trellisref8_str_j2 x51 x1 x43 x2 ((bt x1 x51) != 10) o1
  else
    trellisref8_str_j2 x51 x1 x43 x2 false o1
def trellisref8_str (x1 : ByteArray) (x2 : Int) (r : Int × ByteArray × Int × Int) : Prop :=
  Rounds (fun (s : (List Int) × Int) o => trellisref8_str_b1 x1 x2 s.1 s.2 o) (([] : List Int), w64 (x2 + 1)) r
def trellisref8_regex_j2 (x15 : Int) (x1 : ByteArray) (x30 : Bool) (o1 : Sum Int Int) : Prop :=
  if x30 = true then
    (0 ≤ x15 ∧ x15 < (x1.size : Int)) ∧
    if bt x1 x15 = 47 then
      o1 = .inr (w64 (x15 + 1))
    else
      if bt x1 x15 = 92 then
        if w64 (x15 + 1) < (x1.size : Int) then
          (0 ≤ w64 (x15 + 1) ∧ w64 (x15 + 1) < (x1.size : Int)) ∧
          if bt x1 (w64 (x15 + 1)) = 10 then
            o1 = .inl (w64 (x15 + 1))
          else
            o1 = .inl (w64 ((w64 (x15 + 1)) + 1))
        else
          o1 = .inl (w64 (x15 + 1))
      else
        o1 = .inl (w64 (x15 + 1))
  else
    o1 = .inr (0)
def trellisref8_regex_b1 (x1 : ByteArray) (x15 : Int) (o1 : Sum Int Int) : Prop :=
  if x15 < (x1.size : Int) then
    (0 ≤ x15 ∧ x15 < (x1.size : Int)) ∧
    trellisref8_regex_j2 x15 x1 ((bt x1 x15) != 10) o1
  else
    trellisref8_regex_j2 x15 x1 false o1
def trellisref8_regex (x1 : ByteArray) (x2 : Int) (r : Int) : Prop :=
  Rounds (fun (s : Int) o => trellisref8_regex_b1 x1 s o) (w64 (x2 + 1)) r
def trellisref8_Word (x1 : ByteArray) (x2 : Int) (r : api_Word × Int × Int × Int) : Prop :=
  (0 ≤ x2 ∧ x2 < (x1.size : Int)) ∧
  ∃ r8 : Bool, (trellisref8_in (⟨#[65, 66, 67, 68, 69, 70, 71, 72, 73, 74, 75, 76, 77, 78, 79, 80, 81, 82, 83, 84, 85, 86, 87, 88, 89, 90, 97, 98, 99, 100, 101, 102, 103, 104, 105, 106, 107, 108, 109, 110, 111, 112, 113, 114, 115, 116, 117, 118, 119, 120, 121, 122, 95]⟩ : ByteArray) (bt x1 x2) r8) ∧
  if r8 = true then
    ∃ r15 : Int, (trellisref8_run x1 x2 (⟨#[65, 66, 67, 68, 69, 70, 71, 72, 73, 74, 75, 76, 77, 78, 79, 80, 81, 82, 83, 84, 85, 86, 87, 88, 89, 90, 97, 98, 99, 100, 101, 102, 103, 104, 105, 106, 107, 108, 109, 110, 111, 112, 113, 114, 115, 116, 117, 118, 119, 120, 121, 122, 95, 48, 49, 50, 51, 52, 53, 54, 55, 56, 57]⟩ : ByteArray) r15) ∧
    if r15 > 24 then
      r = ((⟨0, (⟨#[]⟩ : ByteArray), 0, 0⟩ : api_Word), 0, 83, x2)
    else
      (0 ≤ x2 ∧ x2 ≤ w64 (x2 + r15) ∧ w64 (x2 + r15) ≤ (x1.size : Int)) ∧
      r = ((⟨1, x1.extract (x2 : Int).toNat (w64 (x2 + r15) : Int).toNat, 0, x2⟩ : api_Word), w64 (x2 + r15), 0, 0)
  else
    ∃ r23 : Bool, (trellisref8_in (⟨#[48, 49, 50, 51, 52, 53, 54, 55, 56, 57]⟩ : ByteArray) (bt x1 x2) r23) ∧
    if r23 = true then
      ∃ r30 : Int, (trellisref8_run x1 x2 (⟨#[48, 49, 50, 51, 52, 53, 54, 55, 56, 57]⟩ : ByteArray) r30) ∧
      (0 ≤ x2 ∧ x2 ≤ w64 (x2 + r30) ∧ w64 (x2 + r30) ≤ (x1.size : Int)) ∧
      ∃ r37 : Int, (trellisref8_number (x1.extract (x2 : Int).toNat (w64 (x2 + r30) : Int).toNat) r37) ∧
      if r37 > 65535 then
        r = ((⟨0, (⟨#[]⟩ : ByteArray), 0, 0⟩ : api_Word), 0, 84, x2)
      else
        r = ((⟨4, (⟨#[]⟩ : ByteArray), r37, x2⟩ : api_Word), w64 (x2 + r30), 0, 0)
    else
      if bt x1 x2 = 34 then
        ∃ r45 : Int × ByteArray × Int × Int, (trellisref8_str x1 x2 r45) ∧
        if r45.2.2.1 = 0 then
          r = ((⟨2, r45.2.1, 0, x2⟩ : api_Word), r45.1, 0, 0)
        else
          r = ((⟨0, (⟨#[]⟩ : ByteArray), 0, 0⟩ : api_Word), 0, r45.2.2.1, r45.2.2.2)
      else
        if bt x1 x2 = 47 then
          ∃ r53 : Int, (trellisref8_regex x1 x2 r53) ∧
          if r53 = 0 then
            r = ((⟨0, (⟨#[]⟩ : ByteArray), 0, 0⟩ : api_Word), 0, 82, x2)
          else
            (0 ≤ w64 (x2 + 1) ∧ w64 (x2 + 1) ≤ w64 (r53 - 1) ∧ w64 (r53 - 1) ≤ (x1.size : Int)) ∧
            r = ((⟨3, x1.extract (w64 (x2 + 1) : Int).toNat (w64 (r53 - 1) : Int).toNat, 0, x2⟩ : api_Word), r53, 0, 0)
        else
          ∃ r61 : Bool, (trellisref8_in (⟨#[123, 125, 40, 41, 124, 42, 43, 63, 58, 59, 44, 61, 64]⟩ : ByteArray) (bt x1 x2) r61) ∧
          if r61 = true then
            (0 ≤ x2 ∧ x2 ≤ w64 (x2 + 1) ∧ w64 (x2 + 1) ≤ (x1.size : Int)) ∧
            r = ((⟨5, x1.extract (x2 : Int).toNat (w64 (x2 + 1) : Int).toNat, 0, x2⟩ : api_Word), w64 (x2 + 1), 0, 0)
          else
            r = ((⟨0, (⟨#[]⟩ : ByteArray), 0, 0⟩ : api_Word), 0, 81, x2)
def trellisref8_Cut_b2 (x1 : ByteArray) (x42 : List api_Word) (x114 : Int) (o2 : Sum Int (Sum ((List api_Word) × Int) ((List api_Word) × Int × Int))) : Prop :=
  if x114 < (x1.size : Int) then
    (0 ≤ x114 ∧ x114 < (x1.size : Int)) ∧
    if bt x1 x114 = 10 then
      o2 = .inr (.inl (x42, x114))
    else
      o2 = .inl (w64 (x114 + 1))
  else
    o2 = .inr (.inl (x42, x114))
def trellisref8_Cut_b1 (x1 : ByteArray) (x42 : List api_Word) (x50 : Int) (o1 : Sum ((List api_Word) × Int) ((List api_Word) × Int × Int)) : Prop :=
  if x50 < (x1.size : Int) then
    (0 ≤ x50 ∧ x50 < (x1.size : Int)) ∧
    ∃ r100 : Bool, (trellisref8_in (⟨#[32, 9, 13, 10]⟩ : ByteArray) (bt x1 x50) r100) ∧
    if r100 = true then
      o1 = .inl (x42, w64 (x50 + 1))
    else
      if bt x1 x50 = 35 then
        Rounds (fun (s : Int) o => trellisref8_Cut_b2 x1 x42 s o) x50 o1
      else
        ∃ r123 : api_Word × Int × Int × Int, (trellisref8_Word x1 x50 r123) ∧
        if r123.2.2.1 = 0 then
          ∃ x137 : List api_Word, (x137 = x42 ++ ([(⟨r123.1.kind, r123.1.text, r123.1.n, r123.1.at_⟩ : api_Word)] : List api_Word)) ∧
          (x137.length ≤ 4294967296) ∧
          o1 = .inl (x137, r123.2.1)
        else
          o1 = .inr ((([] : List api_Word), r123.2.2.1, r123.2.2.2))
  else
    o1 = .inr ((x42, 0, 0))
def trellisref8_Cut (x1 : ByteArray) (r : (List api_Word) × Int × Int) : Prop :=
  if (x1.size : Int) > 16384 then
    r = (([] : List api_Word), 80, 16384)
  else
    Rounds (fun (s : (List api_Word) × Int) o => trellisref8_Cut_b1 x1 s.1 s.2 o) (([] : List api_Word), 0) r
def trellislaw8_sameWord (x1 : api_Word) (x2 : api_Word) (r : Bool) : Prop :=
  if x1.kind = x2.kind then
    if x1.text = x2.text then
      if x1.n = x2.n then
        r = (x1.at_ == x2.at_)
      else
        r = false
    else
      r = false
  else
    r = false
def trellislaw8_same_b1 (x1 : List api_Word) (x9 : List api_Word) (x50 : Int) (o1 : Sum Int Bool) : Prop :=
  if x50 < (x1.length : Int) then
    (0 ≤ x50 ∧ x50 < (x1.length : Int)) ∧
    (0 ≤ x50 ∧ x50 < (x9.length : Int)) ∧
    ∃ r90 : Bool, (trellislaw8_sameWord (ix x1 x50) (ix x9 x50) r90) ∧
    if r90 = true then
      o1 = .inl (w64 (x50 + 1))
    else
      o1 = .inr (false)
  else
    o1 = .inr (true)
def trellislaw8_same (x1 : List api_Word) (x9 : List api_Word) (r : Bool) : Prop :=
  if (x1.length : Int) = (x9.length : Int) then
    Rounds (fun (s : Int) o => trellislaw8_same_b1 x1 x9 s o) 0 r
  else
    r = false
def trellislaw8_WordsCut_b3 (r40 : (List api_Word) × Int × Int) (r17 : (List api_Word) × Int × Int) (x209 : List api_Word) (x210 : Int) (o2 : Sum ((List api_Word) × Int) (Sum ((List api_Word) × Int) Bool)) : Prop :=
  if x210 < 70 then
    ∃ x238 : List api_Word, (x238 = x209 ++ ([(⟨0, (⟨#[]⟩ : ByteArray), 78, 0⟩ : api_Word)] : List api_Word)) ∧
    (x238.length ≤ 4294967296) ∧
    o2 = .inl (x238, w64 (x210 + 1))
  else
    ∃ r244 : Bool, (trellislaw8_same r40.1 r17.1 r244) ∧
    if r244 = true then
      o2 = .inr (.inr (((x209.length : Int) == (w64 ((r17.1.length : Int) + 70)))))
    else
      o2 = .inr (.inr (false))
def trellislaw8_WordsCut_b2 (r40 : (List api_Word) × Int × Int) (r17 : (List api_Word) × Int × Int) (x114 : List api_Word) (x122 : Int) (o1 : Sum ((List api_Word) × Int) Bool) : Prop :=
  if x122 < (x114.length : Int) then
    (0 ≤ x122 ∧ x122 < (x114.length : Int)) ∧
    ∃ x188 : List api_Word, (x188 = x114.set (x122 : Int).toNat (⟨0, (⟨#[]⟩ : ByteArray), 77, 0⟩ : api_Word)) ∧
    o1 = .inl (x188, w64 (x122 + 1))
  else
    Rounds (fun (s : (List api_Word) × Int) o => trellislaw8_WordsCut_b3 r40 r17 s.1 s.2 o) (x114, 0) o1
def trellislaw8_WordsCut_j1 (x1 : ByteArray) (r17 : (List api_Word) × Int × Int) (r4 : (List api_Word) × Int × Int) (x36 : Bool) (r : Bool) : Prop :=
  if x36 = true then
    r = false
  else
    ∃ r40 : (List api_Word) × Int × Int, (words_Cut x1 r40) ∧
    Rounds (fun (s : (List api_Word) × Int) o => trellislaw8_WordsCut_b2 r40 r17 s.1 s.2 o) (r4.1, 0) r
def trellislaw8_WordsCut (x1 : ByteArray) (r : Bool) : Prop :=
  ∃ r4 : (List api_Word) × Int × Int, (words_Cut x1 r4) ∧
  ∃ r17 : (List api_Word) × Int × Int, (trellisref8_Cut x1 r17) ∧
  ∃ r251 : Bool, (trellislaw8_same r4.1 r17.1 r251) ∧
  if r251 = true then
    if r4.2.1 = r17.2.1 then
      trellislaw8_WordsCut_j1 x1 r17 r4 (r4.2.2 != r17.2.2) r
    else
      trellislaw8_WordsCut_j1 x1 r17 r4 true r
  else
    trellislaw8_WordsCut_j1 x1 r17 r4 true r
end Go.Proofs.Ytkaejoffnkhbpaa.R
