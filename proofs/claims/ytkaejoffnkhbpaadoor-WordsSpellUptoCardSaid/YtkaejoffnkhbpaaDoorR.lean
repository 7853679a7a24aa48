/- What the functions answer, as plain relations, printed by my own tool off the program's translation. No condition. -/
import Derived.Test.YtkaejoffnkhbpaaDoorP0
set_option linter.unusedVariables false
namespace Go.Proofs.YtkaejoffnkhbpaaDoor.R
open Go.Proofs.YtkaejoffnkhbpaaDoor.B
structure api_Word where
  kind : Int
  text : ByteArray
  n : Int
  at_ : Int
  deriving Inhabited, DecidableEq
structure strings_Builder where
  buf : List Int
  deriving Inhabited, DecidableEq
def trellislaw8_twin_b1 (x1 : List api_Word) (x20 : List api_Word) (x25 : Int) (o1 : Sum ((List api_Word) × Int) (List api_Word)) : Prop :=
  if x25 < (x1.length : Int) then
    (0 ≤ x25 ∧ x25 < (x1.length : Int)) ∧
    ∃ x47 : List api_Word, (x47 = x20 ++ ([ix x1 x25] : List api_Word)) ∧
    (x47.length * 40 ≤ 211106232532992) ∧
    o1 = .inl (x47, w64 (x25 + 1))
  else
    o1 = .inr (x20)
def trellislaw8_twin (x1 : List api_Word) (r : List api_Word) : Prop :=
  Rounds (fun (s : (List api_Word) × Int) o => trellislaw8_twin_b1 x1 s.1 s.2 o) (([] : List api_Word), 0) r
def words_digit (x1 : Int) (r : Bool) : Prop :=
  if x1 ≥ 48 then
    r = decide (x1 ≤ 57)
  else
    r = false
def words_letter (x1 : Int) (r : Bool) : Prop :=
  if x1 ≥ 97 then
    if x1 ≤ 122 then
      r = true
    else
      if x1 ≥ 65 then
        if x1 ≤ 90 then
          r = true
        else
          r = (x1 == 95)
      else
        r = (x1 == 95)
  else
    if x1 ≥ 65 then
      if x1 ≤ 90 then
        r = true
      else
        r = (x1 == 95)
    else
      r = (x1 == 95)
def strings_Contains (x1 : ByteArray) (x2 : ByteArray) (r : Bool) : Prop :=
  (x2.size = 1) ∧ r = hasB x1 x2
def words_sound_b2 (x1 : api_Word) (x40 : Int) (o1 : Sum Int Bool) : Prop :=
  if x40 < (x1.text.size : Int) then
    (0 ≤ x40 ∧ x40 < (x1.text.size : Int)) ∧
    ∃ r66 : Bool, (words_letter (bt x1.text x40) r66) ∧
    if r66 = true then
      o1 = .inl (w64 (x40 + 1))
    else
      ∃ r75 : Bool, (words_digit (bt x1.text x40) r75) ∧
      if r75 = true then
        o1 = .inl (w64 (x40 + 1))
      else
        o1 = .inr (false)
  else
    o1 = .inr (true)
def words_sound_j1 (x1 : api_Word) (x17 : Bool) (r : Bool) : Prop :=
  if x17 = true then
    r = false
  else
    Rounds (fun (s : Int) o => words_sound_b2 x1 s o) 0 r
def words_sound_j4 (x1 : api_Word) (x105 : Int) (x120 : Bool) (o1 : Sum Int Bool) : Prop :=
  if x120 = true then
    o1 = .inr (false)
  else
    if bt x1.text x105 = 92 then
      if w64 (x105 + 1) = (x1.text.size : Int) then
        o1 = .inr (false)
      else
        (0 ≤ w64 (x105 + 1) ∧ w64 (x105 + 1) < (x1.text.size : Int)) ∧
        if bt x1.text (w64 (x105 + 1)) = 10 then
          o1 = .inr (false)
        else
          o1 = .inl (w64 ((w64 (x105 + 1)) + 1))
    else
      o1 = .inl (w64 (x105 + 1))
def words_sound_b3 (x1 : api_Word) (x105 : Int) (o1 : Sum Int Bool) : Prop :=
  if x105 < (x1.text.size : Int) then
    (0 ≤ x105 ∧ x105 < (x1.text.size : Int)) ∧
    if bt x1.text x105 = 47 then
      words_sound_j4 x1 x105 ((bt x1.text x105) == 47) o1
    else
      words_sound_j4 x1 x105 ((bt x1.text x105) == 10) o1
  else
    o1 = .inr (true)
def words_sound (x1 : api_Word) (r : Bool) : Prop :=
  if x1.kind = 1 then
    if x1.text = (⟨#[]⟩ : ByteArray) then
      words_sound_j1 x1 true r
    else
      if (x1.text.size : Int) > 24 then
        words_sound_j1 x1 true r
      else
        (0 ≤ (0 : Int) ∧ (0 : Int) < (x1.text.size : Int)) ∧
        ∃ r87 : Bool, (words_digit (bt x1.text 0) r87) ∧
        words_sound_j1 x1 r87 r
  else
    if x1.kind = 2 then
      r = true
    else
      if x1.kind = 3 then
        Rounds (fun (s : Int) o => words_sound_b3 x1 s o) 0 r
      else
        if x1.kind = 4 then
          if x1.n ≥ 0 then
            r = decide (x1.n ≤ 65535)
          else
            r = false
        else
          if x1.kind = 5 then
            if (x1.text.size : Int) = 1 then
              ∃ r133 : Bool, (strings_Contains (⟨#[123, 125, 40, 41, 124, 42, 43, 63, 58, 59, 44, 61, 64]⟩ : ByteArray) x1.text r133) ∧
              r = r133
            else
              r = false
          else
            r = false
def words_quote_j3 (x1 : ByteArray) (x105 : Int) (x100 : List Int) (x247 : Bool) (o1 : Sum ((List Int) × Int) ByteArray) : Prop :=
  if x247 = true then
    (0 ≤ IntKind.u8.wrap (Int.tdiv (bt x1 x105) 16) ∧ IntKind.u8.wrap (Int.tdiv (bt x1 x105) 16) < ((⟨#[48, 49, 50, 51, 52, 53, 54, 55, 56, 57, 97, 98, 99, 100, 101, 102]⟩ : ByteArray).size : Int)) ∧
    (0 ≤ Int.tmod (bt x1 x105) 16 ∧ Int.tmod (bt x1 x105) 16 < ((⟨#[48, 49, 50, 51, 52, 53, 54, 55, 56, 57, 97, 98, 99, 100, 101, 102]⟩ : ByteArray).size : Int)) ∧
    ∃ x257 : List Int, (x257 = x100 ++ ([92, 120, bt (⟨#[48, 49, 50, 51, 52, 53, 54, 55, 56, 57, 97, 98, 99, 100, 101, 102]⟩ : ByteArray) (IntKind.u8.wrap (Int.tdiv (bt x1 x105) 16)), bt (⟨#[48, 49, 50, 51, 52, 53, 54, 55, 56, 57, 97, 98, 99, 100, 101, 102]⟩ : ByteArray) (Int.tmod (bt x1 x105) 16)] : List Int)) ∧
    (x257.length * 1 ≤ 211106232532992) ∧
    o1 = .inl (x257, w64 (x105 + 1))
  else
    ∃ x280 : List Int, (x280 = x100 ++ ([bt x1 x105] : List Int)) ∧
    (x280.length * 1 ≤ 211106232532992) ∧
    o1 = .inl (x280, w64 (x105 + 1))
def words_quote_j2 (x100 : List Int) (x1 : ByteArray) (x105 : Int) (x204 : Bool) (o1 : Sum ((List Int) × Int) ByteArray) : Prop :=
  if x204 = true then
    ∃ x212 : List Int, (x212 = x100 ++ ([92, bt x1 x105] : List Int)) ∧
    (x212.length * 1 ≤ 211106232532992) ∧
    o1 = .inl (x212, w64 (x105 + 1))
  else
    if bt x1 x105 = 10 then
      ∃ x222 : List Int, (x222 = x100 ++ ([92, 110] : List Int)) ∧
      (x222.length * 1 ≤ 211106232532992) ∧
      o1 = .inl (x222, w64 (x105 + 1))
    else
      if bt x1 x105 = 9 then
        ∃ x232 : List Int, (x232 = x100 ++ ([92, 116] : List Int)) ∧
        (x232.length * 1 ≤ 211106232532992) ∧
        o1 = .inl (x232, w64 (x105 + 1))
      else
        if bt x1 x105 = 13 then
          ∃ x242 : List Int, (x242 = x100 ++ ([92, 114] : List Int)) ∧
          (x242.length * 1 ≤ 211106232532992) ∧
          o1 = .inl (x242, w64 (x105 + 1))
        else
          if bt x1 x105 < 32 then
            words_quote_j3 x1 x105 x100 true o1
          else
            words_quote_j3 x1 x105 x100 (decide (bt x1 x105 > 126)) o1
def words_quote_b1 (x1 : ByteArray) (x100 : List Int) (x105 : Int) (o1 : Sum ((List Int) × Int) ByteArray) : Prop :=
  if x105 < (x1.size : Int) then
    (0 ≤ x105 ∧ x105 < (x1.size : Int)) ∧
    if bt x1 x105 = 34 then
      words_quote_j2 x100 x1 x105 true o1
    else
      words_quote_j2 x100 x1 x105 ((bt x1 x105) == 92) o1
  else
    ∃ x291 : List Int, (x291 = x100 ++ ([34] : List Int)) ∧
    (x291.length * 1 ≤ 211106232532992) ∧
    o1 = .inr (ofBs x291)
def words_quote (x1 : ByteArray) (r : ByteArray) : Prop :=
  Rounds (fun (s : (List Int) × Int) o => words_quote_b1 x1 s.1 s.2 o) (([34] : List Int), 0) r
def strconv_Itoa (x1 : Int) (r : ByteArray) : Prop :=
  (-9223372036854775808 ≤ x1 ∧ x1 ≤ 9223372036854775807) ∧ r = itoaB x1
def words_Spell (x1 : api_Word) (r : ByteArray) : Prop :=
  ∃ r7 : Bool, (words_sound x1 r7) ∧
  if r7 = true then
    if x1.kind = 2 then
      ∃ r17 : ByteArray, (words_quote x1.text r17) ∧
      r = r17
    else
      if x1.kind = 3 then
        ((⟨#[47]⟩ : ByteArray).size + x1.text.size ≤ 9223372036854775807) ∧
        (((⟨#[47]⟩ : ByteArray) ++ x1.text).size + (⟨#[47]⟩ : ByteArray).size ≤ 9223372036854775807) ∧
        r = ((⟨#[47]⟩ : ByteArray) ++ x1.text) ++ (⟨#[47]⟩ : ByteArray)
      else
        if x1.kind = 4 then
          ∃ r29 : ByteArray, (strconv_Itoa x1.n r29) ∧
          r = r29
        else
          r = x1.text
  else
    r = (⟨#[]⟩ : ByteArray)
def trellisref8_in_b1 (x1 : ByteArray) (x2 : Int) (x7 : Int) (o1 : Sum Int Bool) : Prop :=
  if x7 < (x1.size : Int) then
    (0 ≤ x7 ∧ x7 < (x1.size : Int)) ∧
    if bt x1 x7 = x2 then
      o1 = .inr (true)
    else
      o1 = .inl (w64 (x7 + 1))
  else
    o1 = .inr (false)
def trellisref8_in (x1 : ByteArray) (x2 : Int) (r : Bool) : Prop :=
  Rounds (fun (s : Int) o => trellisref8_in_b1 x1 x2 s o) 0 r
def trellisref8_run_b1 (x2 : Int) (x1 : ByteArray) (x3 : ByteArray) (x16 : Int) (o1 : Sum Int Int) : Prop :=
  if w64 (x2 + x16) < (x1.size : Int) then
    (0 ≤ w64 (x2 + x16) ∧ w64 (x2 + x16) < (x1.size : Int)) ∧
    ∃ r33 : Bool, (trellisref8_in x3 (bt x1 (w64 (x2 + x16))) r33) ∧
    if r33 = true then
      o1 = .inl (w64 (x16 + 1))
    else
      o1 = .inr (x16)
  else
    o1 = .inr (x16)
def trellisref8_run (x1 : ByteArray) (x2 : Int) (x3 : ByteArray) (r : Int) : Prop :=
  Rounds (fun (s : Int) o => trellisref8_run_b1 x2 x1 x3 s o) 0 r
def trellisref8_regex_j2 (x17 : Int) (x1 : ByteArray) (x34 : Bool) (o1 : Sum Int Int) : Prop :=
  if x34 = true then
    (0 ≤ x17 ∧ x17 < (x1.size : Int)) ∧
    if bt x1 x17 = 47 then
      o1 = .inr (w64 (x17 + 1))
    else
      if bt x1 x17 = 92 then
        if w64 (x17 + 1) < (x1.size : Int) then
          (0 ≤ w64 (x17 + 1) ∧ w64 (x17 + 1) < (x1.size : Int)) ∧
          if bt x1 (w64 (x17 + 1)) = 10 then
            o1 = .inl (w64 (x17 + 1))
          else
            o1 = .inl (w64 ((w64 (x17 + 1)) + 1))
        else
          o1 = .inl (w64 (x17 + 1))
      else
        o1 = .inl (w64 (x17 + 1))
  else
    o1 = .inr (0)
def trellisref8_regex_b1 (x1 : ByteArray) (x17 : Int) (o1 : Sum Int Int) : Prop :=
  if x17 < (x1.size : Int) then
    (0 ≤ x17 ∧ x17 < (x1.size : Int)) ∧
    trellisref8_regex_j2 x17 x1 ((bt x1 x17) != 10) o1
  else
    trellisref8_regex_j2 x17 x1 false o1
def trellisref8_regex (x1 : ByteArray) (x2 : Int) (r : Int) : Prop :=
  Rounds (fun (s : Int) o => trellisref8_regex_b1 x1 s o) (w64 (x2 + 1)) r
def trellisref8_Sound (x1 : api_Word) (r : Bool) : Prop :=
  if x1.kind = 1 then
    if (x1.text.size : Int) > 0 then
      if (x1.text.size : Int) ≤ 24 then
        (0 ≤ (0 : Int) ∧ (0 : Int) < (x1.text.size : Int)) ∧
        ∃ r11 : Bool, (trellisref8_in (⟨#[48, 49, 50, 51, 52, 53, 54, 55, 56, 57]⟩ : ByteArray) (bt x1.text 0) r11) ∧
        if r11 = true then
          r = false
        else
          ∃ r20 : Int, (trellisref8_run x1.text 0 (⟨#[65, 66, 67, 68, 69, 70, 71, 72, 73, 74, 75, 76, 77, 78, 79, 80, 81, 82, 83, 84, 85, 86, 87, 88, 89, 90, 97, 98, 99, 100, 101, 102, 103, 104, 105, 106, 107, 108, 109, 110, 111, 112, 113, 114, 115, 116, 117, 118, 119, 120, 121, 122, 95, 48, 49, 50, 51, 52, 53, 54, 55, 56, 57]⟩ : ByteArray) r20) ∧
          r = (r20 == (x1.text.size : Int))
      else
        r = false
    else
      r = false
  else
    if x1.kind = 2 then
      r = true
    else
      if x1.kind = 3 then
        ((⟨#[47]⟩ : ByteArray).size + x1.text.size ≤ 9223372036854775807) ∧
        (((⟨#[47]⟩ : ByteArray) ++ x1.text).size + (⟨#[47]⟩ : ByteArray).size ≤ 9223372036854775807) ∧
        ∃ r32 : Int, (trellisref8_regex (((⟨#[47]⟩ : ByteArray) ++ x1.text) ++ (⟨#[47]⟩ : ByteArray)) 0 r32) ∧
        r = (r32 == ((((⟨#[47]⟩ : ByteArray) ++ x1.text) ++ (⟨#[47]⟩ : ByteArray)).size : Int))
      else
        if x1.kind = 4 then
          if x1.n ≥ 0 then
            r = decide (x1.n ≤ 65535)
          else
            r = false
        else
          if x1.kind = 5 then
            if (x1.text.size : Int) = 1 then
              (0 ≤ (0 : Int) ∧ (0 : Int) < (x1.text.size : Int)) ∧
              ∃ r45 : Bool, (trellisref8_in (⟨#[123, 125, 40, 41, 124, 42, 43, 63, 58, 59, 44, 61, 64]⟩ : ByteArray) (bt x1.text 0) r45) ∧
              r = r45
            else
              r = false
          else
            r = false
def trellisref8_byteOf_j1 (x1 : Int) (x9 : Bool) (r : ByteArray) : Prop :=
  if x9 = true then
    (0 ≤ IntKind.u8.wrap (Int.tdiv x1 16) ∧ IntKind.u8.wrap (Int.tdiv x1 16) ≤ IntKind.u8.wrap ((IntKind.u8.wrap (Int.tdiv x1 16)) + 1) ∧ IntKind.u8.wrap ((IntKind.u8.wrap (Int.tdiv x1 16)) + 1) ≤ ((⟨#[48, 49, 50, 51, 52, 53, 54, 55, 56, 57, 97, 98, 99, 100, 101, 102, 65, 66, 67, 68, 69, 70]⟩ : ByteArray).size : Int)) ∧
    ((⟨#[92, 120]⟩ : ByteArray).size + ((⟨#[48, 49, 50, 51, 52, 53, 54, 55, 56, 57, 97, 98, 99, 100, 101, 102, 65, 66, 67, 68, 69, 70]⟩ : ByteArray).extract (IntKind.u8.wrap (Int.tdiv x1 16) : Int).toNat (IntKind.u8.wrap ((IntKind.u8.wrap (Int.tdiv x1 16)) + 1) : Int).toNat).size ≤ 9223372036854775807) ∧
    (0 ≤ Int.tmod x1 16 ∧ Int.tmod x1 16 ≤ IntKind.u8.wrap ((Int.tmod x1 16) + 1) ∧ IntKind.u8.wrap ((Int.tmod x1 16) + 1) ≤ ((⟨#[48, 49, 50, 51, 52, 53, 54, 55, 56, 57, 97, 98, 99, 100, 101, 102, 65, 66, 67, 68, 69, 70]⟩ : ByteArray).size : Int)) ∧
    (((⟨#[92, 120]⟩ : ByteArray) ++ ((⟨#[48, 49, 50, 51, 52, 53, 54, 55, 56, 57, 97, 98, 99, 100, 101, 102, 65, 66, 67, 68, 69, 70]⟩ : ByteArray).extract (IntKind.u8.wrap (Int.tdiv x1 16) : Int).toNat (IntKind.u8.wrap ((IntKind.u8.wrap (Int.tdiv x1 16)) + 1) : Int).toNat)).size + ((⟨#[48, 49, 50, 51, 52, 53, 54, 55, 56, 57, 97, 98, 99, 100, 101, 102, 65, 66, 67, 68, 69, 70]⟩ : ByteArray).extract (Int.tmod x1 16 : Int).toNat (IntKind.u8.wrap ((Int.tmod x1 16) + 1) : Int).toNat).size ≤ 9223372036854775807) ∧
    r = ((⟨#[92, 120]⟩ : ByteArray) ++ ((⟨#[48, 49, 50, 51, 52, 53, 54, 55, 56, 57, 97, 98, 99, 100, 101, 102, 65, 66, 67, 68, 69, 70]⟩ : ByteArray).extract (IntKind.u8.wrap (Int.tdiv x1 16) : Int).toNat (IntKind.u8.wrap ((IntKind.u8.wrap (Int.tdiv x1 16)) + 1) : Int).toNat)) ++ ((⟨#[48, 49, 50, 51, 52, 53, 54, 55, 56, 57, 97, 98, 99, 100, 101, 102, 65, 66, 67, 68, 69, 70]⟩ : ByteArray).extract (Int.tmod x1 16 : Int).toNat (IntKind.u8.wrap ((Int.tmod x1 16) + 1) : Int).toNat)
  else
    r = ofBs ([x1] : List Int)
def trellisref8_byteOf (x1 : Int) (r : ByteArray) : Prop :=
  if x1 = 34 then
    r = (⟨#[92, 34]⟩ : ByteArray)
  else
    if x1 = 92 then
      r = (⟨#[92, 92]⟩ : ByteArray)
    else
      if x1 = 10 then
        r = (⟨#[92, 110]⟩ : ByteArray)
      else
        if x1 = 9 then
          r = (⟨#[92, 116]⟩ : ByteArray)
        else
          if x1 = 13 then
            r = (⟨#[92, 114]⟩ : ByteArray)
          else
            if x1 < 32 then
              trellisref8_byteOf_j1 x1 true r
            else
              trellisref8_byteOf_j1 x1 (decide (x1 > 126)) r
def trellisref8_Spell_b1 (x1 : api_Word) (x27 : ByteArray) (x28 : Int) (o1 : Sum (ByteArray × Int) ByteArray) : Prop :=
  if x28 < (x1.text.size : Int) then
    (0 ≤ x28 ∧ x28 < (x1.text.size : Int)) ∧
    ∃ r46 : ByteArray, (trellisref8_byteOf (bt x1.text x28) r46) ∧
    (x27.size + r46.size ≤ 9223372036854775807) ∧
    o1 = .inl (x27 ++ r46, w64 (x28 + 1))
  else
    (x27.size + (⟨#[34]⟩ : ByteArray).size ≤ 9223372036854775807) ∧
    o1 = .inr (x27 ++ (⟨#[34]⟩ : ByteArray))
def trellisref8_Spell (x1 : api_Word) (r : ByteArray) : Prop :=
  ∃ r7 : Bool, (trellisref8_Sound x1 r7) ∧
  if r7 = true then
    if x1.kind = 2 then
      Rounds (fun (s : ByteArray × Int) o => trellisref8_Spell_b1 x1 s.1 s.2 o) ((⟨#[34]⟩ : ByteArray), 0) r
    else
      if x1.kind = 3 then
        ((⟨#[47]⟩ : ByteArray).size + x1.text.size ≤ 9223372036854775807) ∧
        (((⟨#[47]⟩ : ByteArray) ++ x1.text).size + (⟨#[47]⟩ : ByteArray).size ≤ 9223372036854775807) ∧
        r = ((⟨#[47]⟩ : ByteArray) ++ x1.text) ++ (⟨#[47]⟩ : ByteArray)
      else
        if x1.kind = 4 then
          ∃ r60 : ByteArray, (strconv_Itoa x1.n r60) ∧
          r = r60
        else
          r = x1.text
  else
    r = (⟨#[]⟩ : ByteArray)
def trellislaw8_lent_b1 (x1 : List api_Word) (x29 : List api_Word) (x34 : Int) (o1 : Sum ((List api_Word) × Int) ((List api_Word) × Nat)) : Prop :=
  if x34 < 20 then
    ∃ x54 : List api_Word, (x54 = x29 ++ ([(⟨0, (⟨#[]⟩ : ByteArray), w64 (900 + x34), 7⟩ : api_Word)] : List api_Word)) ∧
    (x54.length * 40 ≤ 211106232532992) ∧
    o1 = .inl (x54, w64 (x34 + 1))
  else
    (0 ≤ (0 : Int) ∧ (0 : Int) ≤ (x1.length : Int) ∧ (x1.length : Int) ≤ (x29.length : Int)) ∧
    o1 = .inr ((x29, ((x1.length : Int) : Int).toNat))
def trellislaw8_lent (x1 : List api_Word) (r : (List api_Word) × Nat) : Prop :=
  ∃ r9 : List api_Word, (trellislaw8_twin x1 r9) ∧
  Rounds (fun (s : (List api_Word) × Int) o => trellislaw8_lent_b1 x1 s.1 s.2 o) (r9, 0) r
def strings_Join (x1 : List ByteArray) (x6 : ByteArray) (r : ByteArray) : Prop :=
  (x1.length ≤ 140737488355328) ∧ ((joinB x1 x6).size ≤ 140737488355328) ∧ r = joinB x1 x6
def words_Join_b1 (x1 : List api_Word) (x47 : List ByteArray) (x52 : Int) (o1 : Sum ((List ByteArray) × Int) ByteArray) : Prop :=
  if x52 < (x1.length : Int) then
    (0 ≤ x52 ∧ x52 < (x1.length : Int)) ∧
    ∃ r100 : Bool, (words_sound (ix x1 x52) r100) ∧
    if r100 = true then
      ∃ r109 : ByteArray, (words_Spell (ix x1 x52) r109) ∧
      ∃ x120 : List ByteArray, (x120 = x47 ++ ([r109] : List ByteArray)) ∧
      (x120.length * 16 ≤ 211106232532992) ∧
      o1 = .inl (x120, w64 (x52 + 1))
    else
      o1 = .inr ((⟨#[]⟩ : ByteArray))
  else
    ∃ r126 : ByteArray, (strings_Join x47 (⟨#[32]⟩ : ByteArray) r126) ∧
    o1 = .inr (r126)
def words_Join (x1 : List api_Word) (r : ByteArray) : Prop :=
  Rounds (fun (s : (List ByteArray) × Int) o => words_Join_b1 x1 s.1 s.2 o) (([] : List ByteArray), 0) r
def trellisref8_Join_b1 (x1 : List api_Word) (x29 : ByteArray) (x30 : Int) (o1 : Sum (ByteArray × Int) ByteArray) : Prop :=
  if x30 < (x1.length : Int) then
    (0 ≤ x30 ∧ x30 < (x1.length : Int)) ∧
    ∃ r71 : Bool, (trellisref8_Sound (ix x1 x30) r71) ∧
    if r71 = true then
      if x30 > 0 then
        (x29.size + (⟨#[32]⟩ : ByteArray).size ≤ 9223372036854775807) ∧
        ∃ r83 : ByteArray, (trellisref8_Spell (ix x1 x30) r83) ∧
        ((x29 ++ (⟨#[32]⟩ : ByteArray)).size + r83.size ≤ 9223372036854775807) ∧
        o1 = .inl ((x29 ++ (⟨#[32]⟩ : ByteArray)) ++ r83, w64 (x30 + 1))
      else
        ∃ r93 : ByteArray, (trellisref8_Spell (ix x1 x30) r93) ∧
        (x29.size + r93.size ≤ 9223372036854775807) ∧
        o1 = .inl (x29 ++ r93, w64 (x30 + 1))
    else
      o1 = .inr ((⟨#[]⟩ : ByteArray))
  else
    o1 = .inr (x29)
def trellisref8_Join (x1 : List api_Word) (r : ByteArray) : Prop :=
  Rounds (fun (s : ByteArray × Int) o => trellisref8_Join_b1 x1 s.1 s.2 o) ((⟨#[]⟩ : ByteArray), 0) r
def trellislaw8_sameWord (x1 : api_Word) (x2 : api_Word) (r : Bool) : Prop :=
  if x1.kind = x2.kind then
    if x1.text = x2.text then
      if x1.n = x2.n then
        r = (x1.at_ == x2.at_)
      else
        r = false
    else
      r = false
  else
    r = false
def trellislaw8_same_b1 (x1 : List api_Word) (x6 : List api_Word) (x55 : Int) (o1 : Sum Int Bool) : Prop :=
  if x55 < (x1.length : Int) then
    (0 ≤ x55 ∧ x55 < (x1.length : Int)) ∧
    (0 ≤ x55 ∧ x55 < (x6.length : Int)) ∧
    ∃ r106 : Bool, (trellislaw8_sameWord (ix x1 x55) (ix x6 x55) r106) ∧
    if r106 = true then
      o1 = .inl (w64 (x55 + 1))
    else
      o1 = .inr (false)
  else
    o1 = .inr (true)
def trellislaw8_same (x1 : List api_Word) (x6 : List api_Word) (r : Bool) : Prop :=
  if (x1.length : Int) = (x6.length : Int) then
    Rounds (fun (s : Int) o => trellislaw8_same_b1 x1 x6 s o) 0 r
  else
    r = false
def trellislaw8_still_b1 (x9 : List api_Word) (x1 : List api_Word) (k6 : Nat) (x29 : Int) (o1 : Sum Int Bool) : Prop :=
  if x29 < 20 then
    (0 ≤ w64 ((x9.length : Int) + x29) ∧ w64 ((x9.length : Int) + x29) < ((x1.take ((w64 ((x9.length : Int) + 20) : Int).toNat)).length : Int)) ∧
    ∃ r56 : Bool, (trellislaw8_sameWord (ix (x1.take ((w64 ((x9.length : Int) + 20) : Int).toNat)) (w64 ((x9.length : Int) + x29))) (⟨0, (⟨#[]⟩ : ByteArray), w64 (900 + x29), 7⟩ : api_Word) r56) ∧
    if r56 = true then
      o1 = .inl (w64 (x29 + 1))
    else
      o1 = .inr (false)
  else
    ∃ r65 : Bool, (trellislaw8_same (x1.take k6) x9 r65) ∧
    o1 = .inr (r65)
def trellislaw8_still (x1 : List api_Word) (k6 : Nat) (x9 : List api_Word) (r : Bool) : Prop :=
  (0 ≤ w64 ((x9.length : Int) + 20) ∧ w64 ((x9.length : Int) + 20) ≤ (x1.length : Int)) ∧
  Rounds (fun (s : Int) o => trellislaw8_still_b1 x9 x1 k6 s o) 0 r
def trellislaw8_WordsSpell_j4 (r887 : (List api_Word) × Nat) (x1066 : List api_Word) (o2 : Sum ((List api_Word) × Int) (Sum Int Bool)) : Prop :=
  ∃ r1072 : List api_Word, (trellislaw8_twin (x1066.take r887.2) r1072) ∧
  ∃ r1085 : ByteArray, (trellisref8_Join r1072 r1085) ∧
  ∃ r1093 : ByteArray, (words_Join (x1066.take r887.2) r1093) ∧
  if r1093 = r1085 then
    ∃ r1102 : Bool, (trellislaw8_still x1066 r887.2 r1072 r1102) ∧
    o2 = .inr (.inr (r1102))
  else
    o2 = .inr (.inr (false))
def trellislaw8_WordsSpell_b3 (r887 : (List api_Word) × Nat) (r9 : List api_Word) (x989 : List api_Word) (x991 : Int) (o2 : Sum ((List api_Word) × Int) (Sum Int Bool)) : Prop :=
  if x991 < ((x989.take r887.2).length : Int) then
    (0 ≤ w64 ((w64 ((r9.length : Int) - 1)) - x991) ∧ w64 ((w64 ((r9.length : Int) - 1)) - x991) < (r9.length : Int)) ∧
    (0 ≤ x991 ∧ x991 < ((x989.take r887.2).length : Int)) ∧
    ∃ x1056 : List api_Word, (x1056 = x989.set (x991 : Int).toNat (ix r9 (w64 ((w64 ((r9.length : Int) - 1)) - x991)))) ∧
    o2 = .inl (x1056, w64 (x991 + 1))
  else
    if ((x989.take r887.2).length : Int) = 1 then
      (0 ≤ (0 : Int) ∧ (0 : Int) < ((x989.take r887.2).length : Int)) ∧
      ∃ x1109 : List api_Word, (x1109 = x989.set (0 : Int).toNat (⟨4, (⟨#[]⟩ : ByteArray), 7, 0⟩ : api_Word)) ∧
      trellislaw8_WordsSpell_j4 r887 x1109 o2
    else
      trellislaw8_WordsSpell_j4 r887 x989 o2
def trellislaw8_WordsSpell_j2 (r887 : (List api_Word) × Nat) (r9 : List api_Word) (x925 : Bool) (o1 : Sum Int Bool) : Prop :=
  if x925 = true then
    o1 = .inr (false)
  else
    Rounds (fun (s : (List api_Word) × Int) o => trellislaw8_WordsSpell_b3 r887 r9 s.1 s.2 o) (r887.1, 0) o1
def trellislaw8_WordsSpell_b1 (x1 : List api_Word) (r9 : List api_Word) (x392 : Int) (o1 : Sum Int Bool) : Prop :=
  if x392 < (x1.length : Int) then
    (0 ≤ x392 ∧ x392 < (x1.length : Int)) ∧
    ∃ r771 : ByteArray, (words_Spell (ix x1 x392) r771) ∧
    (0 ≤ x392 ∧ x392 < (r9.length : Int)) ∧
    ∃ r780 : ByteArray, (trellisref8_Spell (ix r9 x392) r780) ∧
    if r771 = r780 then
      o1 = .inl (w64 (x392 + 1))
    else
      o1 = .inr (false)
  else
    ∃ r887 : (List api_Word) × Nat, (trellislaw8_lent x1 r887) ∧
    ∃ r1115 : ByteArray, (words_Join (r887.1.take r887.2) r1115) ∧
    ∃ r1123 : ByteArray, (trellisref8_Join r9 r1123) ∧
    if r1115 = r1123 then
      ∃ r1132 : Bool, (trellislaw8_still r887.1 r887.2 x1 r1132) ∧
      trellislaw8_WordsSpell_j2 r887 r9 (!r1132) o1
    else
      trellislaw8_WordsSpell_j2 r887 r9 true o1
def trellislaw8_WordsSpell (x1 : List api_Word) (r : Bool) : Prop :=
  ∃ r9 : List api_Word, (trellislaw8_twin x1 r9) ∧
  Rounds (fun (s : Int) o => trellislaw8_WordsSpell_b1 x1 r9 s o) 0 r
def words_blank (x1 : Int) (r : Bool) : Prop :=
  if x1 = 32 then
    r = true
  else
    if x1 = 9 then
      r = true
    else
      if x1 = 13 then
        r = true
      else
        r = (x1 == 10)
def internal_stringslite_IndexByte (x1 : ByteArray) (x2 : Int) (r : Int) : Prop :=
  r = idxB x1 x2
def strings_IndexByte (x1 : ByteArray) (x2 : Int) (r : Int) : Prop :=
  ∃ r6 : Int, (internal_stringslite_IndexByte x1 x2 r6) ∧
  r = r6
def words_hex_j2 (x1 : Int) (x17 : Bool) (r : Int × Bool) : Prop :=
  if x17 = true then
    r = (IntKind.u8.wrap ((IntKind.u8.wrap (x1 - 65)) + 10), true)
  else
    r = (0, false)
def words_hex_j1 (x1 : Int) (x13 : Bool) (r : Int × Bool) : Prop :=
  if x13 = true then
    r = (IntKind.u8.wrap ((IntKind.u8.wrap (x1 - 97)) + 10), true)
  else
    if x1 ≥ 65 then
      words_hex_j2 x1 (decide (x1 ≤ 70)) r
    else
      words_hex_j2 x1 false r
def words_hex (x1 : Int) (r : Int × Bool) : Prop :=
  ∃ r5 : Bool, (words_digit x1 r5) ∧
  if r5 = true then
    r = (IntKind.u8.wrap (x1 - 48), true)
  else
    if x1 ≥ 97 then
      words_hex_j1 x1 (decide (x1 ≤ 102)) r
    else
      words_hex_j1 x1 false r
def words_escape_j2 (r18 : Int × Bool) (r27 : Int × Bool) (x34 : Bool) (r : Int × Int) : Prop :=
  if x34 = true then
    r = (IntKind.u8.wrap ((IntKind.u8.wrap (16 * r18.1)) + r27.1), 4)
  else
    r = (0, 0)
def words_escape_j1 (x1 : ByteArray) (x2 : Int) (x7 : Bool) (r : Int × Int) : Prop :=
  if x7 = true then
    r = (bt x1 (w64 (x2 + 1)), 2)
  else
    if bt x1 (w64 (x2 + 1)) = 110 then
      r = (10, 2)
    else
      if bt x1 (w64 (x2 + 1)) = 116 then
        r = (9, 2)
      else
        if bt x1 (w64 (x2 + 1)) = 114 then
          r = (13, 2)
        else
          if bt x1 (w64 (x2 + 1)) = 120 then
            if w64 (x2 + 3) < (x1.size : Int) then
              (0 ≤ w64 (x2 + 2) ∧ w64 (x2 + 2) < (x1.size : Int)) ∧
              ∃ r18 : Int × Bool, (words_hex (bt x1 (w64 (x2 + 2))) r18) ∧
              (0 ≤ w64 (x2 + 3) ∧ w64 (x2 + 3) < (x1.size : Int)) ∧
              ∃ r27 : Int × Bool, (words_hex (bt x1 (w64 (x2 + 3))) r27) ∧
              if r18.2 = true then
                words_escape_j2 r18 r27 r27.2 r
              else
                words_escape_j2 r18 r27 false r
            else
              r = (0, 0)
          else
            r = (0, 0)
def words_escape (x1 : ByteArray) (x2 : Int) (r : Int × Int) : Prop :=
  if w64 (x2 + 1) ≥ (x1.size : Int) then
    r = (0, 0)
  else
    (0 ≤ w64 (x2 + 1) ∧ w64 (x2 + 1) < (x1.size : Int)) ∧
    if bt x1 (w64 (x2 + 1)) = 34 then
      words_escape_j1 x1 x2 ((bt x1 (w64 (x2 + 1))) == 34) r
    else
      words_escape_j1 x1 x2 ((bt x1 (w64 (x2 + 1))) == 92) r
def words_quoted_j2 (x2 : Int) (x48 : Int) (x1 : ByteArray) (x43 : List Int) (x89 : Bool) (o1 : Sum ((List Int) × Int) ((List Int) × Int × Int)) : Prop :=
  if x89 = true then
    o1 = .inr ((([] : List Int), 82, x2))
  else
    (0 ≤ x48 ∧ x48 < (x1.size : Int)) ∧
    if bt x1 x48 = 34 then
      o1 = .inr ((x43, 0, w64 (x48 + 1)))
    else
      if bt x1 x48 = 92 then
        ∃ r97 : Int × Int, (words_escape x1 x48 r97) ∧
        if r97.2 = 0 then
          o1 = .inr ((([] : List Int), 82, x48))
        else
          ∃ x109 : List Int, (x109 = x43 ++ ([r97.1] : List Int)) ∧
          (x109.length * 1 ≤ 211106232532992) ∧
          o1 = .inl (x109, w64 (x48 + r97.2))
      else
        ∃ x118 : List Int, (x118 = x43 ++ ([bt x1 x48] : List Int)) ∧
        (x118.length * 1 ≤ 211106232532992) ∧
        o1 = .inl (x118, w64 (x48 + 1))
def words_quoted_b1 (x1 : ByteArray) (x2 : Int) (x43 : List Int) (x48 : Int) (o1 : Sum ((List Int) × Int) ((List Int) × Int × Int)) : Prop :=
  if x48 = (x1.size : Int) then
    words_quoted_j2 x2 x48 x1 x43 true o1
  else
    (0 ≤ x48 ∧ x48 < (x1.size : Int)) ∧
    words_quoted_j2 x2 x48 x1 x43 ((bt x1 x48) == 10) o1
def words_quoted (x1 : ByteArray) (x2 : Int) (r : (List Int) × Int × Int) : Prop :=
  Rounds (fun (s : (List Int) × Int) o => words_quoted_b1 x1 x2 s.1 s.2 o) (([] : List Int), w64 (x2 + 1)) r
def words_slashed_j3 (x28 : Int) (x70 : Bool) (o1 : Sum Int ((List Int) × Int × Int)) : Prop :=
  if x70 = true then
    o1 = .inl (w64 ((w64 (x28 + 1)) + 1))
  else
    o1 = .inl (w64 (x28 + 1))
def words_slashed_j2 (x2 : Int) (x28 : Int) (x1 : ByteArray) (x56 : Bool) (o1 : Sum Int ((List Int) × Int × Int)) : Prop :=
  if x56 = true then
    o1 = .inr ((([] : List Int), 82, x2))
  else
    (0 ≤ x28 ∧ x28 < (x1.size : Int)) ∧
    if bt x1 x28 = 47 then
      (0 ≤ w64 (x2 + 1) ∧ w64 (x2 + 1) ≤ x28 ∧ x28 ≤ (x1.size : Int)) ∧
      ((x1.extract (w64 (x2 + 1) : Int).toNat (x28 : Int).toNat).size ≤ 9223372036854775807) ∧
      o1 = .inr (((bsOf (x1.extract (w64 (x2 + 1) : Int).toNat (x28 : Int).toNat)), 0, w64 (x28 + 1)))
    else
      if bt x1 x28 = 92 then
        if w64 (x28 + 1) < (x1.size : Int) then
          (0 ≤ w64 (x28 + 1) ∧ w64 (x28 + 1) < (x1.size : Int)) ∧
          words_slashed_j3 x28 ((bt x1 (w64 (x28 + 1))) != 10) o1
        else
          words_slashed_j3 x28 false o1
      else
        words_slashed_j3 x28 false o1
def words_slashed_b1 (x1 : ByteArray) (x2 : Int) (x28 : Int) (o1 : Sum Int ((List Int) × Int × Int)) : Prop :=
  if x28 = (x1.size : Int) then
    words_slashed_j2 x2 x28 x1 true o1
  else
    (0 ≤ x28 ∧ x28 < (x1.size : Int)) ∧
    words_slashed_j2 x2 x28 x1 ((bt x1 x28) == 10) o1
def words_slashed (x1 : ByteArray) (x2 : Int) (r : (List Int) × Int × Int) : Prop :=
  Rounds (fun (s : Int) o => words_slashed_b1 x1 x2 s o) (w64 (x2 + 1)) r
def words_Cut_j3 (x885 : Int) (x438 : List api_Word) (x896 : Bool) (o2 : Sum Int (Sum ((List api_Word) × Int) ((List api_Word) × Int × Int))) : Prop :=
  if x896 = true then
    o2 = .inl (w64 (x885 + 1))
  else
    o2 = .inr (.inl (x438, x885))
def words_Cut_b2 (x1 : ByteArray) (x438 : List api_Word) (x885 : Int) (o2 : Sum Int (Sum ((List api_Word) × Int) ((List api_Word) × Int × Int))) : Prop :=
  if x885 < (x1.size : Int) then
    (0 ≤ x885 ∧ x885 < (x1.size : Int)) ∧
    words_Cut_j3 x885 x438 ((bt x1 x885) != 10) o2
  else
    words_Cut_j3 x885 x438 false o2
def words_Cut_j5 (x960 : Int) (x443 : Int) (x1 : ByteArray) (x438 : List api_Word) (x1033 : Bool) (o2 : Sum Int (Sum ((List api_Word) × Int) ((List api_Word) × Int × Int))) : Prop :=
  if x1033 = true then
    o2 = .inl (w64 (x960 + 1))
  else
    if w64 (x960 - x443) > 24 then
      o2 = .inr (.inr ((([] : List api_Word), 83, x443)))
    else
      (0 ≤ x443 ∧ x443 ≤ x960 ∧ x960 ≤ (x1.size : Int)) ∧
      ∃ x1043 : List api_Word, (x1043 = x438 ++ ([(⟨1, x1.extract (x443 : Int).toNat (x960 : Int).toNat, 0, x443⟩ : api_Word)] : List api_Word)) ∧
      (x1043.length * 40 ≤ 211106232532992) ∧
      o2 = .inr (.inl (x1043, x960))
def words_Cut_b4 (x1 : ByteArray) (x443 : Int) (x438 : List api_Word) (x960 : Int) (o2 : Sum Int (Sum ((List api_Word) × Int) ((List api_Word) × Int × Int))) : Prop :=
  if x960 < (x1.size : Int) then
    (0 ≤ x960 ∧ x960 < (x1.size : Int)) ∧
    ∃ r1051 : Bool, (words_letter (bt x1 x960) r1051) ∧
    if r1051 = true then
      words_Cut_j5 x960 x443 x1 x438 true o2
    else
      ∃ r1060 : Bool, (words_digit (bt x1 x960) r1060) ∧
      words_Cut_j5 x960 x443 x1 x438 r1060 o2
  else
    words_Cut_j5 x960 x443 x1 x438 false o2
def words_Cut_j7 (x1105 : Int) (x1 : ByteArray) (x1106 : Int) (x443 : Int) (x438 : List api_Word) (x1152 : Bool) (o2 : Sum (Int × Int) (Sum ((List api_Word) × Int) ((List api_Word) × Int × Int))) : Prop :=
  if x1152 = true then
    (0 ≤ x1105 ∧ x1105 < (x1.size : Int)) ∧
    o2 = .inl (w64 (x1105 + 1), min (w64 ((w64 (10 * x1106)) + (w64 (IntKind.u8.wrap ((bt x1 x1105) - 48))))) 65536)
  else
    if x1106 > 65535 then
      o2 = .inr (.inr ((([] : List api_Word), 84, x443)))
    else
      ∃ x1162 : List api_Word, (x1162 = x438 ++ ([(⟨4, (⟨#[]⟩ : ByteArray), x1106, x443⟩ : api_Word)] : List api_Word)) ∧
      (x1162.length * 40 ≤ 211106232532992) ∧
      o2 = .inr (.inl (x1162, x1105))
def words_Cut_b6 (x1 : ByteArray) (x443 : Int) (x438 : List api_Word) (x1105 : Int) (x1106 : Int) (o2 : Sum (Int × Int) (Sum ((List api_Word) × Int) ((List api_Word) × Int × Int))) : Prop :=
  if x1105 < (x1.size : Int) then
    (0 ≤ x1105 ∧ x1105 < (x1.size : Int)) ∧
    ∃ r1170 : Bool, (words_digit (bt x1 x1105) r1170) ∧
    words_Cut_j7 x1105 x1 x1106 x443 x438 r1170 o2
  else
    words_Cut_j7 x1105 x1 x1106 x443 x438 false o2
def words_Cut_b1 (x1 : ByteArray) (x438 : List api_Word) (x443 : Int) (o1 : Sum ((List api_Word) × Int) ((List api_Word) × Int × Int)) : Prop :=
  if x443 = (x1.size : Int) then
    o1 = .inr ((x438, 0, 0))
  else
    (0 ≤ x443 ∧ x443 < (x1.size : Int)) ∧
    ∃ r872 : Bool, (words_blank (bt x1 x443) r872) ∧
    if r872 = true then
      o1 = .inl (x438, w64 (x443 + 1))
    else
      if bt x1 x443 = 35 then
        Rounds (fun (s : Int) o => words_Cut_b2 x1 x438 s o) x443 o1
      else
        ∃ r903 : Bool, (words_letter (bt x1 x443) r903) ∧
        if r903 = true then
          Rounds (fun (s : Int) o => words_Cut_b4 x1 x443 x438 s o) x443 o1
        else
          ∃ r1068 : Bool, (words_digit (bt x1 x443) r1068) ∧
          if r1068 = true then
            Rounds (fun (s : Int × Int) o => words_Cut_b6 x1 x443 x438 s.1 s.2 o) (x443, 0) o1
          else
            if bt x1 x443 = 34 then
              ∃ r1203 : (List Int) × Int × Int, (words_quoted x1 x443 r1203) ∧
              if r1203.2.1 = 0 then
                ∃ x1220 : List api_Word, (x1220 = x438 ++ ([(⟨2, ofBs r1203.1, 0, x443⟩ : api_Word)] : List api_Word)) ∧
                (x1220.length * 40 ≤ 211106232532992) ∧
                o1 = .inl (x1220, r1203.2.2)
              else
                o1 = .inr ((([] : List api_Word), r1203.2.1, r1203.2.2))
            else
              if bt x1 x443 = 47 then
                ∃ r1251 : (List Int) × Int × Int, (words_slashed x1 x443 r1251) ∧
                if r1251.2.1 = 0 then
                  ∃ x1268 : List api_Word, (x1268 = x438 ++ ([(⟨3, ofBs r1251.1, 0, x443⟩ : api_Word)] : List api_Word)) ∧
                  (x1268.length * 40 ≤ 211106232532992) ∧
                  o1 = .inl (x1268, r1251.2.2)
                else
                  o1 = .inr ((([] : List api_Word), r1251.2.1, r1251.2.2))
              else
                ∃ r1274 : Int, (strings_IndexByte (⟨#[123, 125, 40, 41, 124, 42, 43, 63, 58, 59, 44, 61, 64]⟩ : ByteArray) (bt x1 x443) r1274) ∧
                if r1274 ≥ 0 then
                  (0 ≤ x443 ∧ x443 ≤ w64 (x443 + 1) ∧ w64 (x443 + 1) ≤ (x1.size : Int)) ∧
                  ∃ x1287 : List api_Word, (x1287 = x438 ++ ([(⟨5, x1.extract (x443 : Int).toNat (w64 (x443 + 1) : Int).toNat, 0, x443⟩ : api_Word)] : List api_Word)) ∧
                  (x1287.length * 40 ≤ 211106232532992) ∧
                  o1 = .inl (x1287, w64 (x443 + 1))
                else
                  o1 = .inr ((([] : List api_Word), 81, x443))
def words_Cut (x1 : ByteArray) (r : (List api_Word) × Int × Int) : Prop :=
  if (x1.size : Int) > 16384 then
    r = (([] : List api_Word), 80, 16384)
  else
    Rounds (fun (s : (List api_Word) × Int) o => words_Cut_b1 x1 s.1 s.2 o) (([] : List api_Word), 0) r
def trellislaw8_started_j1 (r4 : (List api_Word) × Int × Int) (x23 : Bool) (r : Bool) : Prop :=
  if x23 = true then
    r = false
  else
    ∃ r28 : ByteArray, (words_Join r4.1 r28) ∧
    r = (seq r28 (⟨#[97, 32, 61, 32, 34, 92, 110, 34, 32, 47, 98, 47, 32, 55, 32, 59]⟩ : ByteArray))
def trellislaw8_started  (r : Bool) : Prop :=
  ∃ r4 : (List api_Word) × Int × Int, (words_Cut (⟨#[97, 32, 61, 32, 34, 92, 110, 34, 32, 47, 98, 47, 32, 48, 55, 59]⟩ : ByteArray) r4) ∧
  if r4.2.1 = 0 then
    if r4.2.2 = 0 then
      if (r4.1.length : Int) = 6 then
        (0 ≤ (2 : Int) ∧ (2 : Int) < (r4.1.length : Int)) ∧
        if (ix r4.1 2).text = (⟨#[10]⟩ : ByteArray) then
          (0 ≤ (4 : Int) ∧ (4 : Int) < (r4.1.length : Int)) ∧
          if (ix r4.1 4).n = 7 then
            (0 ≤ (5 : Int) ∧ (5 : Int) < (r4.1.length : Int)) ∧
            trellislaw8_started_j1 r4 (((ix r4.1 5).at_) != 15) r
          else
            trellislaw8_started_j1 r4 true r
        else
          trellislaw8_started_j1 r4 true r
      else
        trellislaw8_started_j1 r4 true r
    else
      trellislaw8_started_j1 r4 true r
  else
    trellislaw8_started_j1 r4 true r
def trellislaw8_WordsBack_j2 (x97 : List api_Word) (x1 : List api_Word) (x102 : Int) (x96 : Int) (r180 : ByteArray) (x202 : ByteArray) (x203 : Int) (o1 : Sum (Int × (List api_Word) × Int) Bool) : Prop :=
  ∃ x210 : List api_Word, (x210 = x97 ++ ([(⟨(ix x1 x102).kind, x202, x203, x96⟩ : api_Word)] : List api_Word)) ∧
  (x210.length * 40 ≤ 211106232532992) ∧
  o1 = .inl (w64 ((w64 (x96 + (r180.size : Int))) + 1), x210, w64 (x102 + 1))
def trellislaw8_WordsBack_j3 (r18 : ByteArray) (x97 : List api_Word) (x216 : Bool) (o1 : Sum (Int × (List api_Word) × Int) Bool) : Prop :=
  if x216 = true then
    o1 = .inr (false)
  else
    ∃ r221 : (List api_Word) × Int × Int, (words_Cut r18 r221) ∧
    if (r18.size : Int) > 16384 then
      if r221.2.1 = 80 then
        if r221.2.2 = 16384 then
          o1 = .inr (((r221.1.length : Int) == 0))
        else
          o1 = .inr (false)
      else
        o1 = .inr (false)
    else
      if r221.2.1 = 0 then
        if r221.2.2 = 0 then
          ∃ r239 : Bool, (trellislaw8_same r221.1 x97 r239) ∧
          o1 = .inr (r239)
        else
          o1 = .inr (false)
      else
        o1 = .inr (false)
def trellislaw8_WordsBack_b1 (x1 : List api_Word) (r18 : ByteArray) (x96 : Int) (x97 : List api_Word) (x102 : Int) (o1 : Sum (Int × (List api_Word) × Int) Bool) : Prop :=
  if x102 < (x1.length : Int) then
    (0 ≤ x102 ∧ x102 < (x1.length : Int)) ∧
    ∃ r180 : ByteArray, (words_Spell (ix x1 x102) r180) ∧
    if r180 = (⟨#[]⟩ : ByteArray) then
      o1 = .inr ((seq r18 (⟨#[]⟩ : ByteArray)))
    else
      if (ix x1 x102).kind = 4 then
        trellislaw8_WordsBack_j2 x97 x1 x102 x96 r180 (⟨#[]⟩ : ByteArray) ((ix x1 x102).n) o1
      else
        trellislaw8_WordsBack_j2 x97 x1 x102 x96 r180 ((ix x1 x102).text) 0 o1
  else
    if (x1.length : Int) > 0 then
      trellislaw8_WordsBack_j3 r18 x97 ((r18.size : Int) != (w64 (x96 - 1))) o1
    else
      trellislaw8_WordsBack_j3 r18 x97 false o1
def trellislaw8_WordsBack (x1 : List api_Word) (r : Bool) : Prop :=
  ∃ r9 : Bool, (trellislaw8_started  r9) ∧
  if r9 = true then
    ∃ r18 : ByteArray, (words_Join x1 r18) ∧
    Rounds (fun (s : Int × (List api_Word) × Int) o => trellislaw8_WordsBack_b1 x1 r18 s.1 s.2.1 s.2.2 o) (0, ([] : List api_Word), 0) r
  else
    r = false
def trellislaw8_alike_b1 (x1 : List api_Word) (x6 : List api_Word) (x49 : Int) (o1 : Sum Int Bool) : Prop :=
  if x49 < (x1.length : Int) then
    (0 ≤ x49 ∧ x49 < (x1.length : Int)) ∧
    (0 ≤ x49 ∧ x49 < (x6.length : Int)) ∧
    if (ix x1 x49).kind = (ix x6 x49).kind then
      if (ix x1 x49).text = (ix x6 x49).text then
        if (ix x1 x49).n = (ix x6 x49).n then
          o1 = .inl (w64 (x49 + 1))
        else
          o1 = .inr (false)
      else
        o1 = .inr (false)
    else
      o1 = .inr (false)
  else
    o1 = .inr (true)
def trellislaw8_alike (x1 : List api_Word) (x6 : List api_Word) (r : Bool) : Prop :=
  if (x1.length : Int) = (x6.length : Int) then
    Rounds (fun (s : Int) o => trellislaw8_alike_b1 x1 x6 s o) 0 r
  else
    r = false
def trellislaw8_WordsCanon_j1 (x68 : Bool) (r : Bool) : Prop :=
  r = x68
def trellislaw8_WordsCanon (x1 : ByteArray) (r : Bool) : Prop :=
  ∃ r5 : Bool, (trellislaw8_started  r5) ∧
  if r5 = true then
    ∃ r14 : (List api_Word) × Int × Int, (words_Cut x1 r14) ∧
    if r14.2.1 = 0 then
      ∃ r28 : ByteArray, (words_Join r14.1 r28) ∧
      ∃ r36 : (List api_Word) × Int × Int, (words_Cut r28 r36) ∧
      if (r28.size : Int) > 16384 then
        r = (r36.2.1 == 80)
      else
        if r36.2.1 = 0 then
          ∃ r51 : Bool, (trellislaw8_alike r14.1 r36.1 r51) ∧
          if r51 = true then
            ∃ r60 : ByteArray, (words_Join r36.1 r60) ∧
            r = (seq r60 r28)
          else
            r = false
        else
          r = false
    else
      if (r14.1.length : Int) = 0 then
        if r14.2.2 ≥ 0 then
          trellislaw8_WordsCanon_j1 (decide (r14.2.2 ≤ (x1.size : Int))) r
        else
          trellislaw8_WordsCanon_j1 false r
      else
        trellislaw8_WordsCanon_j1 false r
  else
    r = false
def trellislaw8_WordsApart_b2 (r29 : (List api_Word) × Int × Int) (x1 : ByteArray) (r44 : (List api_Word) × Int × Int) (x267 : List api_Word) (x272 : Int) (o2 : Sum ((List api_Word) × Int) (Sum ((List api_Word) × Int) Bool)) : Prop :=
  if x272 < (r29.1.length : Int) then
    (0 ≤ x272 ∧ x272 < (r29.1.length : Int)) ∧
    ∃ x305 : List api_Word, (x305 = x267 ++ ([(⟨(ix r29.1 x272).kind, (ix r29.1 x272).text, (ix r29.1 x272).n, w64 ((w64 (((ix r29.1 x272).at_) + (x1.size : Int))) + 1)⟩ : api_Word)] : List api_Word)) ∧
    (x305.length * 40 ≤ 211106232532992) ∧
    o2 = .inl (x305, w64 (x272 + 1))
  else
    if r44.2.1 = 0 then
      ∃ r312 : Bool, (trellislaw8_same r44.1 x267 r312) ∧
      o2 = .inr (.inr (r312))
    else
      o2 = .inr (.inr (false))
def trellislaw8_WordsApart_b1 (r16 : (List api_Word) × Int × Int) (r29 : (List api_Word) × Int × Int) (x1 : ByteArray) (r44 : (List api_Word) × Int × Int) (x143 : List api_Word) (x148 : Int) (o1 : Sum ((List api_Word) × Int) Bool) : Prop :=
  if x148 < (r16.1.length : Int) then
    (0 ≤ x148 ∧ x148 < (r16.1.length : Int)) ∧
    ∃ x241 : List api_Word, (x241 = x143 ++ ([ix r16.1 x148] : List api_Word)) ∧
    (x241.length * 40 ≤ 211106232532992) ∧
    o1 = .inl (x241, w64 (x148 + 1))
  else
    Rounds (fun (s : (List api_Word) × Int) o => trellislaw8_WordsApart_b2 r29 x1 r44 s.1 s.2 o) (x143, 0) o1
def trellislaw8_WordsApart_j3 (x320 : Bool) (r : Bool) : Prop :=
  r = x320
def trellislaw8_WordsApart_j4 (x326 : Bool) (r : Bool) : Prop :=
  r = x326
def trellislaw8_WordsApart (x1 : ByteArray) (x2 : ByteArray) (r : Bool) : Prop :=
  ∃ r6 : Bool, (trellislaw8_started  r6) ∧
  if r6 = true then
    if w64 ((x1.size : Int) + (x2.size : Int)) ≥ 16384 then
      r = true
    else
      ∃ r16 : (List api_Word) × Int × Int, (words_Cut x1 r16) ∧
      ∃ r29 : (List api_Word) × Int × Int, (words_Cut x2 r29) ∧
      (x1.size + (⟨#[10]⟩ : ByteArray).size ≤ 9223372036854775807) ∧
      ((x1 ++ (⟨#[10]⟩ : ByteArray)).size + x2.size ≤ 9223372036854775807) ∧
      ∃ r44 : (List api_Word) × Int × Int, (words_Cut ((x1 ++ (⟨#[10]⟩ : ByteArray)) ++ x2) r44) ∧
      if r16.2.1 = 0 then
        if r29.2.1 = 0 then
          Rounds (fun (s : (List api_Word) × Int) o => trellislaw8_WordsApart_b1 r16 r29 x1 r44 s.1 s.2 o) (([] : List api_Word), 0) r
        else
          if r44.2.1 = r29.2.1 then
            if r44.2.2 = w64 ((w64 (r29.2.2 + (x1.size : Int))) + 1) then
              trellislaw8_WordsApart_j3 ((r44.1.length : Int) == 0) r
            else
              trellislaw8_WordsApart_j3 false r
          else
            trellislaw8_WordsApart_j3 false r
      else
        if r44.2.1 = r16.2.1 then
          if r44.2.2 = r16.2.2 then
            trellislaw8_WordsApart_j4 ((r44.1.length : Int) == 0) r
          else
            trellislaw8_WordsApart_j4 false r
        else
          trellislaw8_WordsApart_j4 false r
  else
    r = false
def trellislaw8_WordsPlaces_j3 (x94 : Int) (r14 : (List api_Word) × Int × Int) (x170 : Int) (x1 : ByteArray) (x178 : Bool) (o1 : Sum Int Bool) : Prop :=
  if x178 = true then
    o1 = .inr (false)
  else
    (0 ≤ x94 ∧ x94 < (r14.1.length : Int)) ∧
    (0 ≤ (ix r14.1 x94).at_ ∧ (ix r14.1 x94).at_ ≤ x170 ∧ x170 ≤ (x1.size : Int)) ∧
    ∃ r185 : (List api_Word) × Int × Int, (words_Cut (x1.extract ((ix r14.1 x94).at_ : Int).toNat (x170 : Int).toNat) r185) ∧
    if r185.2.1 = 0 then
      if (r185.1.length : Int) = 1 then
        (0 ≤ (0 : Int) ∧ (0 : Int) < (r185.1.length : Int)) ∧
        if (ix r185.1 0).at_ = 0 then
          (0 ≤ x94 ∧ x94 ≤ w64 (x94 + 1) ∧ w64 (x94 + 1) ≤ (r14.1.length : Int)) ∧
          ∃ r204 : Bool, (trellislaw8_alike r185.1 ((r14.1.drop (x94 : Int).toNat).take ((w64 (x94 + 1) : Int).toNat - (x94 : Int).toNat)) r204) ∧
          if r204 = true then
            o1 = .inl (w64 (x94 + 1))
          else
            o1 = .inr (false)
        else
          o1 = .inr (false)
      else
        o1 = .inr (false)
    else
      o1 = .inr (false)
def trellislaw8_WordsPlaces_j2 (x94 : Int) (r14 : (List api_Word) × Int × Int) (x1 : ByteArray) (x170 : Int) (o1 : Sum Int Bool) : Prop :=
  (0 ≤ x94 ∧ x94 < (r14.1.length : Int)) ∧
  if (ix r14.1 x94).at_ < 0 then
    trellislaw8_WordsPlaces_j3 x94 r14 x170 x1 true o1
  else
    if (ix r14.1 x94).at_ ≥ x170 then
      trellislaw8_WordsPlaces_j3 x94 r14 x170 x1 true o1
    else
      if x170 > (x1.size : Int) then
        trellislaw8_WordsPlaces_j3 x94 r14 x170 x1 true o1
      else
        if x94 > 0 then
          (0 ≤ w64 (x94 - 1) ∧ w64 (x94 - 1) < (r14.1.length : Int)) ∧
          trellislaw8_WordsPlaces_j3 x94 r14 x170 x1 (decide ((ix r14.1 x94).at_ ≤ (ix r14.1 (w64 (x94 - 1))).at_)) o1
        else
          trellislaw8_WordsPlaces_j3 x94 r14 x170 x1 false o1
def trellislaw8_WordsPlaces_j4 (x1 : ByteArray) (x220 : Int) (o1 : Sum Int Bool) : Prop :=
  (0 ≤ (0 : Int) ∧ (0 : Int) ≤ x220 ∧ x220 ≤ (x1.size : Int)) ∧
  ∃ r225 : (List api_Word) × Int × Int, (words_Cut (x1.extract (0 : Int).toNat (x220 : Int).toNat) r225) ∧
  if r225.2.1 = 0 then
    o1 = .inr (((r225.1.length : Int) == 0))
  else
    o1 = .inr (false)
def trellislaw8_WordsPlaces_b1 (r14 : (List api_Word) × Int × Int) (x1 : ByteArray) (x94 : Int) (o1 : Sum Int Bool) : Prop :=
  if x94 < (r14.1.length : Int) then
    if w64 (x94 + 1) < (r14.1.length : Int) then
      (0 ≤ w64 (x94 + 1) ∧ w64 (x94 + 1) < (r14.1.length : Int)) ∧
      trellislaw8_WordsPlaces_j2 x94 r14 x1 ((ix r14.1 (w64 (x94 + 1))).at_) o1
    else
      trellislaw8_WordsPlaces_j2 x94 r14 x1 (x1.size : Int) o1
  else
    if (r14.1.length : Int) > 0 then
      (0 ≤ (0 : Int) ∧ (0 : Int) < (r14.1.length : Int)) ∧
      trellislaw8_WordsPlaces_j4 x1 ((ix r14.1 0).at_) o1
    else
      trellislaw8_WordsPlaces_j4 x1 (x1.size : Int) o1
def trellislaw8_WordsPlaces (x1 : ByteArray) (r : Bool) : Prop :=
  ∃ r5 : Bool, (trellislaw8_started  r5) ∧
  if r5 = true then
    ∃ r14 : (List api_Word) × Int × Int, (words_Cut x1 r14) ∧
    if r14.2.1 = 0 then
      Rounds (fun (s : Int) o => trellislaw8_WordsPlaces_b1 r14 x1 s o) 0 r
    else
      r = true
  else
    r = false
def internal_strconv_log10Pow2 (x1 : Int) (r : Int) : Prop :=
  r = shrV .i64 (w64 (x1 * 78913)) 18
def internal_strconv_bool2_int (x1 : Bool) (r : Int) : Prop :=
  if x1 = true then
    r = 1
  else
    r = 0
def internal_strconv_isPowerOfTwo (x1 : Int) (r : Bool) : Prop :=
  r = ((bits .and .i64 x1 (w64 (x1 - 1))) == 0)
def internal_bytealg_Cutover (x1 : Int) (r : Int) : Prop :=
  r = w64 (Int.tdiv (w64 (x1 + 16)) 8)
def internal_bytealg_hashStr_string_b2 (x15 : Int) (x34 : Int) (x35 : Int) (x36 : Int) (o2 : Sum (Int × Int × Int) (Sum (Int × Int) (Int × Int))) : Prop :=
  if x36 > 0 then
    if bits .and .i64 x36 1 = 0 then
      o2 = .inl (x34, IntKind.u32.wrap (x35 * x35), shrV .i64 x36 1)
    else
      o2 = .inl (IntKind.u32.wrap (x34 * x35), IntKind.u32.wrap (x35 * x35), shrV .i64 x36 1)
  else
    o2 = .inr (.inr ((x15, x34)))
def internal_bytealg_hashStr_string_b1 (x1 : ByteArray) (x15 : Int) (x16 : Int) (o1 : Sum (Int × Int) (Int × Int)) : Prop :=
  if x16 < (x1.size : Int) then
    (0 ≤ x16 ∧ x16 < (x1.size : Int)) ∧
    o1 = .inl (IntKind.u32.wrap ((IntKind.u32.wrap (x15 * 16777619)) + (IntKind.u32.wrap (bt x1 x16))), w64 (x16 + 1))
  else
    Rounds (fun (s : Int × Int × Int) o => internal_bytealg_hashStr_string_b2 x15 s.1 s.2.1 s.2.2 o) (1, 16777619, (x1.size : Int)) o1
def internal_bytealg_hashStr_string (x1 : ByteArray) (r : Int × Int) : Prop :=
  Rounds (fun (s : Int × Int) o => internal_bytealg_hashStr_string_b1 x1 s.1 s.2 o) (0, 0) r
def internal_bytealg_IndexRabinKarp_string_b3 (x1 : ByteArray) (x2 : ByteArray) (r6 : Int × Int) (x88 : Int) (x89 : Int) (o2 : Sum (Int × Int) (Sum (Int × Int) Int)) : Prop :=
  if x89 < (x1.size : Int) then
    (0 ≤ x89 ∧ x89 < (x1.size : Int)) ∧
    (0 ≤ w64 (x89 - (x2.size : Int)) ∧ w64 (x89 - (x2.size : Int)) < (x1.size : Int)) ∧
    if IntKind.u32.wrap ((IntKind.u32.wrap ((IntKind.u32.wrap (x88 * 16777619)) + (IntKind.u32.wrap (bt x1 x89)))) - (IntKind.u32.wrap (r6.2 * (IntKind.u32.wrap (bt x1 (w64 (x89 - (x2.size : Int)))))))) = r6.1 then
      (0 ≤ w64 ((w64 (x89 + 1)) - (x2.size : Int)) ∧ w64 ((w64 (x89 + 1)) - (x2.size : Int)) ≤ w64 (x89 + 1) ∧ w64 (x89 + 1) ≤ (x1.size : Int)) ∧
      if x1.extract (w64 ((w64 (x89 + 1)) - (x2.size : Int)) : Int).toNat (w64 (x89 + 1) : Int).toNat = x2 then
        o2 = .inr (.inr (w64 ((w64 (x89 + 1)) - (x2.size : Int))))
      else
        o2 = .inl (IntKind.u32.wrap ((IntKind.u32.wrap ((IntKind.u32.wrap (x88 * 16777619)) + (IntKind.u32.wrap (bt x1 x89)))) - (IntKind.u32.wrap (r6.2 * (IntKind.u32.wrap (bt x1 (w64 (x89 - (x2.size : Int)))))))), w64 (x89 + 1))
    else
      o2 = .inl (IntKind.u32.wrap ((IntKind.u32.wrap ((IntKind.u32.wrap (x88 * 16777619)) + (IntKind.u32.wrap (bt x1 x89)))) - (IntKind.u32.wrap (r6.2 * (IntKind.u32.wrap (bt x1 (w64 (x89 - (x2.size : Int)))))))), w64 (x89 + 1))
  else
    o2 = .inr (.inr (-1))
def internal_bytealg_IndexRabinKarp_string_j2 (x1 : ByteArray) (x2 : ByteArray) (r6 : Int × Int) (x42 : Int) (x79 : Bool) (o1 : Sum (Int × Int) Int) : Prop :=
  if x79 = true then
    o1 = .inr (0)
  else
    Rounds (fun (s : Int × Int) o => internal_bytealg_IndexRabinKarp_string_b3 x1 x2 r6 s.1 s.2 o) (x42, (x2.size : Int)) o1
def internal_bytealg_IndexRabinKarp_string_b1 (x2 : ByteArray) (x1 : ByteArray) (r6 : Int × Int) (x42 : Int) (x43 : Int) (o1 : Sum (Int × Int) Int) : Prop :=
  if x43 < (x2.size : Int) then
    (0 ≤ x43 ∧ x43 < (x1.size : Int)) ∧
    o1 = .inl (IntKind.u32.wrap ((IntKind.u32.wrap (x42 * 16777619)) + (IntKind.u32.wrap (bt x1 x43))), w64 (x43 + 1))
  else
    if x42 = r6.1 then
      (0 ≤ (0 : Int) ∧ (0 : Int) ≤ (x2.size : Int) ∧ (x2.size : Int) ≤ (x1.size : Int)) ∧
      internal_bytealg_IndexRabinKarp_string_j2 x1 x2 r6 x42 (seq (x1.extract (0 : Int).toNat ((x2.size : Int) : Int).toNat) x2) o1
    else
      internal_bytealg_IndexRabinKarp_string_j2 x1 x2 r6 x42 false o1
def internal_bytealg_IndexRabinKarp_string (x1 : ByteArray) (x2 : ByteArray) (r : Int) : Prop :=
  ∃ r6 : Int × Int, (internal_bytealg_hashStr_string x2 r6) ∧
  Rounds (fun (s : Int × Int) o => internal_bytealg_IndexRabinKarp_string_b1 x2 x1 r6 s.1 s.2 o) (0, 0) r
end Go.Proofs.YtkaejoffnkhbpaaDoor.R
