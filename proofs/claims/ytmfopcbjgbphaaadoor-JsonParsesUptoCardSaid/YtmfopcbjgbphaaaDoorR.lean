/- What the functions answer, as plain relations, printed by my own tool off the program's translation. No condition. -/
import Derived.Test.YtmfopcbjgbphaaaDoorP0
import Derived.Lib.ValidU
set_option linter.unusedVariables false
namespace Go.Proofs.YtmfopcbjgbphaaaDoor.R
open Go.Proofs.YtmfopcbjgbphaaaDoor.B
def tb_3 : List Int := [0, 0, 0, 0, 0, 0, 0, 0, 0, 0, 0, 0, 0, 0, 0, 0, 0, 0, 0, 0, 0, 0, 0, 0, 0, 0, 0, 0, 0, 0, 0, 0, 0, 0, 34, 0, 0, 0, 0, 0, 0, 0, 0, 0, 0, 0, 0, 47, 0, 0, 0, 0, 0, 0, 0, 0, 0, 0, 0, 0, 0, 0, 0, 0, 0, 0, 0, 0, 0, 0, 0, 0, 0, 0, 0, 0, 0, 0, 0, 0, 0, 0, 0, 0, 0, 0, 0, 0, 0, 0, 0, 0, 92, 0, 0, 0, 0, 0, 8, 0, 0, 0, 12, 0, 0, 0, 0, 0, 0, 0, 10, 0, 0, 0, 13, 0, 9, 0, 0, 0, 0, 0, 0, 0, 0, 0, 0, 0, 0, 0, 0, 0, 0, 0, 0, 0, 0, 0, 0, 0, 0, 0, 0, 0, 0, 0, 0, 0, 0, 0, 0, 0, 0, 0, 0, 0, 0, 0, 0, 0, 0, 0, 0, 0, 0, 0, 0, 0, 0, 0, 0, 0, 0, 0, 0, 0, 0, 0, 0, 0, 0, 0, 0, 0, 0, 0, 0, 0, 0, 0, 0, 0, 0, 0, 0, 0, 0, 0, 0, 0, 0, 0, 0, 0, 0, 0, 0, 0, 0, 0, 0, 0, 0, 0, 0, 0, 0, 0, 0, 0, 0, 0, 0, 0, 0, 0, 0, 0, 0, 0, 0, 0, 0, 0, 0, 0, 0, 0, 0, 0, 0, 0, 0, 0, 0, 0, 0, 0, 0, 0, 0, 0, 0, 0, 0, 0]
structure api_JNode where
 kind : Int
 key : ByteArray
 text : ByteArray
 kids : Int
 deriving Inhabited, DecidableEq
structure json_parser where
 text : ByteArray
 at_ : Int
 out : List api_JNode
 in_ : Int
 code : Int
 deriving Inhabited, DecidableEq
structure trellisref25_Reader where
 s : ByteArray
 l : List api_JNode
 e : Int
 at_ : Int
 deriving Inhabited, DecidableEq
def internal_stringslite_IndexByte (x1 : ByteArray) (x2 : Int) (r : Int) : Prop :=
 r = idxB x1 x2
def strings_IndexByte (x1 : ByteArray) (x2 : Int) (r : Int) : Prop :=
 ∃ r6 : Int, (internal_stringslite_IndexByte x1 x2 r6) ∧
 r = r6
def json_parser_is (x1 : json_parser) (x10 : ByteArray) (r : Bool × json_parser) : Prop :=
 if x1.at_ < (x1.text.size : Int) then
  (0 ≤ x1.at_ ∧ x1.at_ < (x1.text.size : Int)) ∧
  ∃ r16 : Int, (strings_IndexByte x10 (bt x1.text x1.at_) r16) ∧
  r = (decide (r16 ≥ 0), x1)
 else
  r = (false, x1)
def json_parser_take (x1 : json_parser) (x10 : ByteArray) (r : Bool × json_parser) : Prop :=
 ∃ r14 : Bool × json_parser, (json_parser_is x1 x10 r14) ∧
 if r14.1 = true then
  r = (true, (⟨r14.2.text, w64 (r14.2.at_ + 1), r14.2.out, r14.2.in_, r14.2.code⟩ : json_parser))
 else
  r = (false, r14.2)
def json_parser_digits_b1 (x39 : ByteArray) (x40 : Int) (x41 : List api_JNode) (x46 : Int) (x47 : Int) (o1 : Sum (ByteArray × Int × (List api_JNode) × Int × Int) (Bool × json_parser)) : Prop :=
 ∃ r65 : Bool × json_parser, (json_parser_is (⟨x39, x40, x41, x46, x47⟩ : json_parser) (⟨#[48, 49, 50, 51, 52, 53, 54, 55, 56, 57]⟩ : ByteArray) r65) ∧
 if r65.1 = true then
  o1 = .inl (r65.2.text, w64 (r65.2.at_ + 1), r65.2.out, r65.2.in_, r65.2.code)
 else
  o1 = .inr ((true, r65.2))
def json_parser_digits (x1 : json_parser) (r : Bool × json_parser) : Prop :=
 ∃ r13 : Bool × json_parser, (json_parser_take x1 (⟨#[48, 49, 50, 51, 52, 53, 54, 55, 56, 57]⟩ : ByteArray) r13) ∧
 if r13.1 = true then
  Rounds (fun (s : ByteArray × Int × (List api_JNode) × Int × Int) o => json_parser_digits_b1 s.1 s.2.1 s.2.2.1 s.2.2.2.1 s.2.2.2.2 o) (r13.2.text, r13.2.at_, r13.2.out, r13.2.in_, r13.2.code) r
 else
  r = (false, r13.2)
def json_parser_number_j4 (r120 : Bool × json_parser) (x132 : Int) (r : Bool × json_parser) : Prop :=
 ∃ r136 : Bool × json_parser, (json_parser_digits (⟨r120.2.text, x132, r120.2.out, r120.2.in_, r120.2.code⟩ : json_parser) r136) ∧
 r = (r136.1, r136.2)
def json_parser_number_j3 (x94 : ByteArray) (x95 : Int) (x96 : List api_JNode) (x101 : Int) (x102 : Int) (r : Bool × json_parser) : Prop :=
 ∃ r106 : Bool × json_parser, (json_parser_is (⟨x94, x95, x96, x101, x102⟩ : json_parser) (⟨#[101, 69]⟩ : ByteArray) r106) ∧
 if r106.1 = true then
  ∃ r120 : Bool × json_parser, (json_parser_is (⟨r106.2.text, w64 (r106.2.at_ + 1), r106.2.out, r106.2.in_, r106.2.code⟩ : json_parser) (⟨#[43, 45]⟩ : ByteArray) r120) ∧
  if r120.1 = true then
   json_parser_number_j4 r120 (w64 (r120.2.at_ + 1)) r
  else
   json_parser_number_j4 r120 r120.2.at_ r
 else
  r = (true, r106.2)
def json_parser_number_j2 (x55 : ByteArray) (x56 : Int) (x57 : List api_JNode) (x62 : Int) (x63 : Int) (r : Bool × json_parser) : Prop :=
 ∃ r68 : Bool × json_parser, (json_parser_is (⟨x55, x56, x57, x62, x63⟩ : json_parser) (⟨#[46]⟩ : ByteArray) r68) ∧
 if r68.1 = true then
  ∃ r149 : Bool × json_parser, (json_parser_digits (⟨r68.2.text, w64 (r68.2.at_ + 1), r68.2.out, r68.2.in_, r68.2.code⟩ : json_parser) r149) ∧
  if r149.1 = true then
   json_parser_number_j3 r149.2.text r149.2.at_ r149.2.out r149.2.in_ r149.2.code r
  else
   r = (false, r149.2)
 else
  json_parser_number_j3 r68.2.text r68.2.at_ r68.2.out r68.2.in_ r68.2.code r
def json_parser_number_j1 (r13 : Bool × json_parser) (x25 : Int) (r : Bool × json_parser) : Prop :=
 ∃ r29 : Bool × json_parser, (json_parser_is (⟨r13.2.text, x25, r13.2.out, r13.2.in_, r13.2.code⟩ : json_parser) (⟨#[48]⟩ : ByteArray) r29) ∧
 if r29.1 = true then
  json_parser_number_j2 r29.2.text (w64 (r29.2.at_ + 1)) r29.2.out r29.2.in_ r29.2.code r
 else
  ∃ r163 : Bool × json_parser, (json_parser_digits r29.2 r163) ∧
  if r163.1 = true then
   json_parser_number_j2 r163.2.text r163.2.at_ r163.2.out r163.2.in_ r163.2.code r
  else
   r = (false, r163.2)
def json_parser_number (x1 : json_parser) (r : Bool × json_parser) : Prop :=
 ∃ r13 : Bool × json_parser, (json_parser_is x1 (⟨#[45]⟩ : ByteArray) r13) ∧
 if r13.1 = true then
  json_parser_number_j1 r13 (w64 (r13.2.at_ + 1)) r
 else
  json_parser_number_j1 r13 r13.2.at_ r
def trellisref25_Ranges_j1 (x1 : Int) (x5 : Bool) (r : (List Int) × Bool) : Prop :=
 if x5 = true then
  r = (([] : List Int), false)
 else
  if x1 < 224 then
   r = (([128, 191] : List Int), true)
  else
   if x1 = 224 then
    r = (([160, 191, 128, 191] : List Int), true)
   else
    if x1 = 237 then
     r = (([128, 159, 128, 191] : List Int), true)
    else
     if x1 < 240 then
      r = (([128, 191, 128, 191] : List Int), true)
     else
      if x1 = 240 then
       r = (([144, 191, 128, 191, 128, 191] : List Int), true)
      else
       if x1 = 244 then
        r = (([128, 143, 128, 191, 128, 191] : List Int), true)
       else
        r = (([128, 191, 128, 191, 128, 191] : List Int), true)
def trellisref25_Ranges (x1 : Int) (r : (List Int) × Bool) : Prop :=
 if x1 < 128 then
  r = (([] : List Int), true)
 else
  if x1 < 194 then
   trellisref25_Ranges_j1 x1 true r
  else
   trellisref25_Ranges_j1 x1 (decide (x1 > 244)) r
def trellisref25_Reader_stop (x1 : trellisref25_Reader) (x10 : Int) (x11 : Int) (r : Int × trellisref25_Reader) : Prop :=
 if x1.e = 0 then
  r = (x11, (⟨x1.s, x1.l, x10, x11⟩ : trellisref25_Reader))
 else
  r = (x11, x1)
def trellisref25_Reader_char_j2 (x1 : trellisref25_Reader) (x54 : Int) (x55 : Int) (x90 : Bool) (o1 : Sum (Int × Int) (Int × trellisref25_Reader)) : Prop :=
 if x90 = true then
  ∃ r95 : Int × trellisref25_Reader, (trellisref25_Reader_stop x1 250 x54 r95) ∧
  o1 = .inr ((r95.1, r95.2))
 else
  o1 = .inl (w64 (x54 + 1), w64 (x55 + 2))
def trellisref25_Reader_char_b1 (r15 : (List Int) × Bool) (x1 : trellisref25_Reader) (x54 : Int) (x55 : Int) (o1 : Sum (Int × Int) (Int × trellisref25_Reader)) : Prop :=
 if x55 < (r15.1.length : Int) then
  if x54 ≥ (x1.s.size : Int) then
   trellisref25_Reader_char_j2 x1 x54 x55 true o1
  else
   (0 ≤ x54 ∧ x54 < (x1.s.size : Int)) ∧
   (0 ≤ x55 ∧ x55 < (r15.1.length : Int)) ∧
   if w64 (bt x1.s x54) < ix r15.1 x55 then
    trellisref25_Reader_char_j2 x1 x54 x55 true o1
   else
    (0 ≤ w64 (x55 + 1) ∧ w64 (x55 + 1) < (r15.1.length : Int)) ∧
    trellisref25_Reader_char_j2 x1 x54 x55 (decide (w64 (bt x1.s x54) > ix r15.1 (w64 (x55 + 1)))) o1
 else
  o1 = .inr ((x54, x1))
def trellisref25_Reader_char (x1 : trellisref25_Reader) (x10 : Int) (r : Int × trellisref25_Reader) : Prop :=
 (0 ≤ x10 ∧ x10 < (x1.s.size : Int)) ∧
 ∃ r15 : (List Int) × Bool, (trellisref25_Ranges (bt x1.s x10) r15) ∧
 if r15.2 = true then
  Rounds (fun (s : Int × Int) o => trellisref25_Reader_char_b1 r15 x1 s.1 s.2 o) (w64 (x10 + 1), 0) r
 else
  ∃ r113 : Int × trellisref25_Reader, (trellisref25_Reader_stop x1 250 x10 r113) ∧
  r = (r113.1, r113.2)
def trellisref25_Reader_has_b1 (x11 : ByteArray) (x10 : Int) (x1 : trellisref25_Reader) (x18 : Int) (o1 : Sum Int (Bool × trellisref25_Reader)) : Prop :=
 if x18 < (x11.size : Int) then
  (0 ≤ x18 ∧ x18 < (x11.size : Int)) ∧
  (0 ≤ x10 ∧ x10 < (x1.s.size : Int)) ∧
  if bt x11 x18 = bt x1.s x10 then
   o1 = .inr ((true, x1))
  else
   o1 = .inl (w64 (x18 + 1))
 else
  o1 = .inr ((false, x1))
def trellisref25_Reader_has (x1 : trellisref25_Reader) (x10 : Int) (x11 : ByteArray) (r : Bool × trellisref25_Reader) : Prop :=
 if x10 ≥ (x1.s.size : Int) then
  r = (false, x1)
 else
  Rounds (fun (s : Int) o => trellisref25_Reader_has_b1 x11 x10 x1 s o) 0 r
def trellisref25_Reader_need (x1 : trellisref25_Reader) (x10 : Int) (x11 : ByteArray) (r : Int × trellisref25_Reader) : Prop :=
 if x1.e = 0 then
  ∃ r16 : Bool × trellisref25_Reader, (trellisref25_Reader_has x1 x10 x11 r16) ∧
  if r16.1 = true then
   r = (w64 (x10 + 1), r16.2)
  else
   ∃ r30 : Int × trellisref25_Reader, (trellisref25_Reader_stop r16.2 250 x10 r30) ∧
   r = (r30.1, r30.2)
 else
  r = (x10, x1)
def trellisref25_Reader_skip_b1 (x11 : ByteArray) (x28 : Int) (x29 : ByteArray) (x30 : List api_JNode) (x35 : Int) (x36 : Int) (o1 : Sum (Int × ByteArray × (List api_JNode) × Int × Int) (Int × trellisref25_Reader)) : Prop :=
 if x35 = 0 then
  ∃ r56 : Bool × trellisref25_Reader, (trellisref25_Reader_has (⟨x29, x30, x35, x36⟩ : trellisref25_Reader) x28 x11 r56) ∧
  if r56.1 = true then
   o1 = .inl (w64 (x28 + 1), r56.2.s, r56.2.l, r56.2.e, r56.2.at_)
  else
   o1 = .inr ((x28, r56.2))
 else
  o1 = .inr ((x28, (⟨x29, x30, x35, x36⟩ : trellisref25_Reader)))
def trellisref25_Reader_skip (x1 : trellisref25_Reader) (x10 : Int) (x11 : ByteArray) (r : Int × trellisref25_Reader) : Prop :=
 Rounds (fun (s : Int × ByteArray × (List api_JNode) × Int × Int) o => trellisref25_Reader_skip_b1 x11 s.1 s.2.1 s.2.2.1 s.2.2.2.1 s.2.2.2.2 o) (x10, x1.s, x1.l, x1.e, x1.at_) r
def trellisref25_Reader_number_j6 (r167 : Bool × trellisref25_Reader) (x179 : Int) (r : Int × trellisref25_Reader) : Prop :=
 ∃ r183 : Int × trellisref25_Reader, (trellisref25_Reader_need r167.2 x179 (⟨#[48, 49, 50, 51, 52, 53, 54, 55, 56, 57]⟩ : ByteArray) r183) ∧
 ∃ r196 : Int × trellisref25_Reader, (trellisref25_Reader_skip r183.2 r183.1 (⟨#[48, 49, 50, 51, 52, 53, 54, 55, 56, 57]⟩ : ByteArray) r196) ∧
 r = (r196.1, r196.2)
def trellisref25_Reader_number_j5 (x130 : Int) (x154 : Bool) (x155 : ByteArray) (x156 : List api_JNode) (x161 : Int) (x162 : Int) (r : Int × trellisref25_Reader) : Prop :=
 if x154 = true then
  ∃ r167 : Bool × trellisref25_Reader, (trellisref25_Reader_has (⟨x155, x156, x161, x162⟩ : trellisref25_Reader) (w64 (x130 + 1)) (⟨#[43, 45]⟩ : ByteArray) r167) ∧
  if r167.1 = true then
   trellisref25_Reader_number_j6 r167 (w64 ((w64 (x130 + 1)) + 1)) r
  else
   trellisref25_Reader_number_j6 r167 (w64 (x130 + 1)) r
 else
  r = (x130, (⟨x155, x156, x161, x162⟩ : trellisref25_Reader))
def trellisref25_Reader_number_j4 (x130 : Int) (x131 : ByteArray) (x132 : List api_JNode) (x137 : Int) (x138 : Int) (r : Int × trellisref25_Reader) : Prop :=
 if x137 = 0 then
  ∃ r210 : Bool × trellisref25_Reader, (trellisref25_Reader_has (⟨x131, x132, x137, x138⟩ : trellisref25_Reader) x130 (⟨#[101, 69]⟩ : ByteArray) r210) ∧
  trellisref25_Reader_number_j5 x130 r210.1 r210.2.s r210.2.l r210.2.e r210.2.at_ r
 else
  trellisref25_Reader_number_j5 x130 false x131 x132 x137 x138 r
def trellisref25_Reader_number_j3 (x69 : Int) (x93 : Bool) (x94 : ByteArray) (x95 : List api_JNode) (x100 : Int) (x101 : Int) (r : Int × trellisref25_Reader) : Prop :=
 if x93 = true then
  ∃ r223 : Int × trellisref25_Reader, (trellisref25_Reader_need (⟨x94, x95, x100, x101⟩ : trellisref25_Reader) (w64 (x69 + 1)) (⟨#[48, 49, 50, 51, 52, 53, 54, 55, 56, 57]⟩ : ByteArray) r223) ∧
  ∃ r236 : Int × trellisref25_Reader, (trellisref25_Reader_skip r223.2 r223.1 (⟨#[48, 49, 50, 51, 52, 53, 54, 55, 56, 57]⟩ : ByteArray) r236) ∧
  trellisref25_Reader_number_j4 r236.1 r236.2.s r236.2.l r236.2.e r236.2.at_ r
 else
  trellisref25_Reader_number_j4 x69 x94 x95 x100 x101 r
def trellisref25_Reader_number_j2 (x69 : Int) (x70 : ByteArray) (x71 : List api_JNode) (x76 : Int) (x77 : Int) (r : Int × trellisref25_Reader) : Prop :=
 if x76 = 0 then
  ∃ r250 : Bool × trellisref25_Reader, (trellisref25_Reader_has (⟨x70, x71, x76, x77⟩ : trellisref25_Reader) x69 (⟨#[46]⟩ : ByteArray) r250) ∧
  trellisref25_Reader_number_j3 x69 r250.1 r250.2.s r250.2.l r250.2.e r250.2.at_ r
 else
  trellisref25_Reader_number_j3 x69 false x70 x71 x76 x77 r
def trellisref25_Reader_number_j1 (r14 : Bool × trellisref25_Reader) (x26 : Int) (r : Int × trellisref25_Reader) : Prop :=
 ∃ r30 : Bool × trellisref25_Reader, (trellisref25_Reader_has r14.2 x26 (⟨#[48]⟩ : ByteArray) r30) ∧
 if r30.1 = true then
  trellisref25_Reader_number_j2 (w64 (x26 + 1)) r30.2.s r30.2.l r30.2.e r30.2.at_ r
 else
  ∃ r263 : Int × trellisref25_Reader, (trellisref25_Reader_need r30.2 x26 (⟨#[48, 49, 50, 51, 52, 53, 54, 55, 56, 57]⟩ : ByteArray) r263) ∧
  ∃ r276 : Int × trellisref25_Reader, (trellisref25_Reader_skip r263.2 r263.1 (⟨#[48, 49, 50, 51, 52, 53, 54, 55, 56, 57]⟩ : ByteArray) r276) ∧
  trellisref25_Reader_number_j2 r276.1 r276.2.s r276.2.l r276.2.e r276.2.at_ r
def trellisref25_Reader_number (x1 : trellisref25_Reader) (x10 : Int) (r : Int × trellisref25_Reader) : Prop :=
 ∃ r14 : Bool × trellisref25_Reader, (trellisref25_Reader_has x1 x10 (⟨#[45]⟩ : ByteArray) r14) ∧
 if r14.1 = true then
  trellisref25_Reader_number_j1 r14 (w64 (x10 + 1)) r
 else
  trellisref25_Reader_number_j1 r14 x10 r
def trellislaw25_same_b1 (x1 : List api_JNode) (x6 : List api_JNode) (x23 : Int) (o1 : Sum Int Bool) : Prop :=
 if x23 < (x1.length : Int) then
  (0 ≤ x23 ∧ x23 < (x1.length : Int)) ∧
  (0 ≤ x23 ∧ x23 < (x6.length : Int)) ∧
  if ix x1 x23 = ix x6 x23 then
   o1 = .inl (w64 (x23 + 1))
  else
   o1 = .inr (false)
 else
  o1 = .inr (true)
def trellislaw25_same (x1 : List api_JNode) (x6 : List api_JNode) (r : Bool) : Prop :=
 if (x1.length : Int) = (x6.length : Int) then
  Rounds (fun (s : Int) o => trellislaw25_same_b1 x1 x6 s o) 0 r
 else
  r = false
def json_parser_blanks_b1 (x25 : ByteArray) (x26 : Int) (x27 : List api_JNode) (x32 : Int) (x33 : Int) (o1 : Sum (ByteArray × Int × (List api_JNode) × Int × Int) json_parser) : Prop :=
 ∃ r51 : Bool × json_parser, (json_parser_is (⟨x25, x26, x27, x32, x33⟩ : json_parser) (⟨#[32, 9, 10, 13]⟩ : ByteArray) r51) ∧
 if r51.1 = true then
  o1 = .inl (r51.2.text, w64 (r51.2.at_ + 1), r51.2.out, r51.2.in_, r51.2.code)
 else
  o1 = .inr (r51.2)
def json_parser_blanks (x1 : json_parser) (r : json_parser) : Prop :=
 Rounds (fun (s : ByteArray × Int × (List api_JNode) × Int × Int) o => json_parser_blanks_b1 s.1 s.2.1 s.2.2.1 s.2.2.2.1 s.2.2.2.2 o) (x1.text, x1.at_, x1.out, x1.in_, x1.code) r
def json_parser_word_b1 (x10 : ByteArray) (x28 : Int) (x29 : ByteArray) (x30 : Int) (x31 : List api_JNode) (x36 : Int) (x37 : Int) (o1 : Sum (Int × ByteArray × Int × (List api_JNode) × Int × Int) (Bool × json_parser)) : Prop :=
 if x28 < (x10.size : Int) then
  (0 ≤ x28 ∧ x28 ≤ w64 (x28 + 1) ∧ w64 (x28 + 1) ≤ (x10.size : Int)) ∧
  ∃ r59 : Bool × json_parser, (json_parser_take (⟨x29, x30, x31, x36, x37⟩ : json_parser) (x10.extract (x28 : Int).toNat (w64 (x28 + 1) : Int).toNat) r59) ∧
  if r59.1 = true then
   o1 = .inl (w64 (x28 + 1), r59.2.text, r59.2.at_, r59.2.out, r59.2.in_, r59.2.code)
  else
   o1 = .inr ((false, r59.2))
 else
  o1 = .inr ((true, (⟨x29, x30, x31, x36, x37⟩ : json_parser)))
def json_parser_word (x1 : json_parser) (x10 : ByteArray) (r : Bool × json_parser) : Prop :=
 Rounds (fun (s : Int × ByteArray × Int × (List api_JNode) × Int × Int) o => json_parser_word_b1 x10 s.1 s.2.1 s.2.2.1 s.2.2.2.1 s.2.2.2.2.1 s.2.2.2.2.2 o) (0, x1.text, x1.at_, x1.out, x1.in_, x1.code) r
def json_parser_hex (x1 : json_parser) (x10 : ByteArray) (r : Int × Bool × json_parser) : Prop :=
 ∃ r14 : Bool × json_parser, (json_parser_take x1 x10 r14) ∧
 if r14.1 = true then
  (0 ≤ w64 (r14.2.at_ - 1) ∧ w64 (r14.2.at_ - 1) < (r14.2.text.size : Int)) ∧
  if bt r14.2.text (w64 (r14.2.at_ - 1)) ≤ 57 then
   r = (IntKind.i32.wrap (IntKind.u8.wrap ((bt r14.2.text (w64 (r14.2.at_ - 1))) - 48)), true, r14.2)
  else
   r = (IntKind.i32.wrap ((IntKind.i32.wrap ((IntKind.i32.wrap (bits .or .u8 (bt r14.2.text (w64 (r14.2.at_ - 1))) 32)) - 97)) + 10), true, r14.2)
 else
  r = (0, false, r14.2)
def json_parser_four_b2 (x27 : ByteArray) (x28 : ByteArray) (x54 : Int) (x55 : Int) (x56 : ByteArray) (x57 : Int) (x58 : List api_JNode) (x63 : Int) (x64 : Int) (o1 : Sum (Int × Int × ByteArray × Int × (List api_JNode) × Int × Int) (Int × Bool × json_parser)) : Prop :=
 if x55 < 4 then
  (0 ≤ x55 ∧ x55 < (4 : Int)) ∧
  ∃ r86 : Int × Bool × json_parser, (json_parser_hex (⟨x56, x57, x58, x63, x64⟩ : json_parser) ((arrL ([x27, x28, (⟨#[48, 49, 50, 51, 52, 53, 54, 55, 56, 57, 97, 98, 99, 100, 101, 102, 65, 66, 67, 68, 69, 70]⟩ : ByteArray), (⟨#[48, 49, 50, 51, 52, 53, 54, 55, 56, 57, 97, 98, 99, 100, 101, 102, 65, 66, 67, 68, 69, 70]⟩ : ByteArray)] : List ByteArray)) x55) r86) ∧
  if r86.2.1 = true then
   o1 = .inl (IntKind.i32.wrap ((IntKind.i32.wrap (16 * x54)) + r86.1), w64 (x55 + 1), r86.2.2.text, r86.2.2.at_, r86.2.2.out, r86.2.2.in_, r86.2.2.code)
  else
   o1 = .inr ((0, false, r86.2.2))
 else
  o1 = .inr ((x54, true, (⟨x56, x57, x58, x63, x64⟩ : json_parser)))
def json_parser_four_j1 (x27 : ByteArray) (x28 : ByteArray) (x29 : ByteArray) (x30 : Int) (x31 : List api_JNode) (x36 : Int) (x37 : Int) (r : Int × Bool × json_parser) : Prop :=
 Rounds (fun (s : Int × Int × ByteArray × Int × (List api_JNode) × Int × Int) o => json_parser_four_b2 x27 x28 s.1 s.2.1 s.2.2.1 s.2.2.2.1 s.2.2.2.2.1 s.2.2.2.2.2.1 s.2.2.2.2.2.2 o) (0, 0, x29, x30, x31, x36, x37) r
def json_parser_four (x1 : json_parser) (x10 : Bool) (r : Int × Bool × json_parser) : Prop :=
 if x10 = true then
  json_parser_four_j1 (⟨#[100, 68]⟩ : ByteArray) (⟨#[99, 100, 101, 102, 67, 68, 69, 70]⟩ : ByteArray) x1.text x1.at_ x1.out x1.in_ x1.code r
 else
  ∃ r100 : Bool × json_parser, (json_parser_is x1 (⟨#[100, 68]⟩ : ByteArray) r100) ∧
  if r100.1 = true then
   json_parser_four_j1 (⟨#[48, 49, 50, 51, 52, 53, 54, 55, 56, 57, 97, 98, 99, 100, 101, 102, 65, 66, 67, 68, 69, 70]⟩ : ByteArray) (⟨#[48, 49, 50, 51, 52, 53, 54, 55, 56, 57, 97, 98, 65, 66]⟩ : ByteArray) r100.2.text r100.2.at_ r100.2.out r100.2.in_ r100.2.code r
  else
   json_parser_four_j1 (⟨#[48, 49, 50, 51, 52, 53, 54, 55, 56, 57, 97, 98, 99, 100, 101, 102, 65, 66, 67, 68, 69, 70]⟩ : ByteArray) (⟨#[48, 49, 50, 51, 52, 53, 54, 55, 56, 57, 97, 98, 99, 100, 101, 102, 65, 66, 67, 68, 69, 70]⟩ : ByteArray) r100.2.text r100.2.at_ r100.2.out r100.2.in_ r100.2.code r
def unicode_utf8_appendRuneNonASCII_j2 (x1 : List Int) (x8 : Int) (x35 : Bool) (r : List Int) : Prop :=
 if x35 = true then
  ∃ x43 : List Int, (x43 = x1 ++ ([bits .or .u8 240 (IntKind.u8.wrap (shrV .i32 x8 18)), bits .or .u8 128 (bits .and .u8 (IntKind.u8.wrap (shrV .i32 x8 12)) 63), bits .or .u8 128 (bits .and .u8 (IntKind.u8.wrap (shrV .i32 x8 6)) 63), bits .or .u8 128 (bits .and .u8 (IntKind.u8.wrap (x8)) 63)] : List Int)) ∧
  (x43.length * 1 ≤ 211106232532992) ∧
  r = x43
 else
  ∃ x52 : List Int, (x52 = x1 ++ ([239, 191, 189] : List Int)) ∧
  (x52.length * 1 ≤ 211106232532992) ∧
  r = x52
def unicode_utf8_appendRuneNonASCII_j1 (x1 : List Int) (x8 : Int) (x22 : Bool) (r : List Int) : Prop :=
 if x22 = true then
  ∃ x30 : List Int, (x30 = x1 ++ ([bits .or .u8 224 (IntKind.u8.wrap (shrV .i32 x8 12)), bits .or .u8 128 (bits .and .u8 (IntKind.u8.wrap (shrV .i32 x8 6)) 63), bits .or .u8 128 (bits .and .u8 (IntKind.u8.wrap (x8)) 63)] : List Int)) ∧
  (x30.length * 1 ≤ 211106232532992) ∧
  r = x30
 else
  if IntKind.u32.wrap (x8) > 65535 then
   unicode_utf8_appendRuneNonASCII_j2 x1 x8 (decide (IntKind.u32.wrap (x8) ≤ 1114111)) r
  else
   unicode_utf8_appendRuneNonASCII_j2 x1 x8 false r
def unicode_utf8_appendRuneNonASCII (x1 : List Int) (x8 : Int) (r : List Int) : Prop :=
 if IntKind.u32.wrap (x8) ≤ 2047 then
  ∃ x16 : List Int, (x16 = x1 ++ ([bits .or .u8 192 (IntKind.u8.wrap (shrV .i32 x8 6)), bits .or .u8 128 (bits .and .u8 (IntKind.u8.wrap (x8)) 63)] : List Int)) ∧
  (x16.length * 1 ≤ 211106232532992) ∧
  r = x16
 else
  if IntKind.u32.wrap (x8) < 55296 then
   unicode_utf8_appendRuneNonASCII_j1 x1 x8 (decide (IntKind.u32.wrap (x8) < 55296)) r
  else
   if 57343 < IntKind.u32.wrap (x8) then
    unicode_utf8_appendRuneNonASCII_j1 x1 x8 (decide (IntKind.u32.wrap (x8) ≤ 65535)) r
   else
    unicode_utf8_appendRuneNonASCII_j1 x1 x8 false r
def unicode_utf8_AppendRune (x1 : List Int) (x8 : Int) (r : List Int) : Prop :=
 if IntKind.u32.wrap (x8) ≤ 127 then
  ∃ x16 : List Int, (x16 = x1 ++ ([IntKind.u8.wrap (x8)] : List Int)) ∧
  (x16.length * 1 ≤ 211106232532992) ∧
  r = x16
 else
  ∃ r22 : List Int, (unicode_utf8_appendRuneNonASCII x1 x8 r22) ∧
  r = r22
def json_parser_escape_j3 (x10 : List Int) (r65 : Int × Bool × json_parser) (x108 : Bool) (x109 : ByteArray) (x110 : Int) (x111 : List api_JNode) (x116 : Int) (x117 : Int) (r : (List Int) × Bool × json_parser) : Prop :=
 if x108 = true then
  r = (x10, false, (⟨x109, x110, x111, x116, x117⟩ : json_parser))
 else
  ∃ r122 : Int × Bool × json_parser, (json_parser_four (⟨x109, x110, x111, x116, x117⟩ : json_parser) true r122) ∧
  if r122.2.1 = true then
   ∃ r136 : List Int, (unicode_utf8_AppendRune x10 (IntKind.i32.wrap ((IntKind.i32.wrap (65536 + (shlV .i32 (IntKind.i32.wrap (r65.1 - 55296)) 10))) + (IntKind.i32.wrap (r122.1 - 56320)))) r136) ∧
   r = (r136, true, r122.2.2)
  else
   r = (x10, false, r122.2.2)
def json_parser_escape_j2 (r65 : Int × Bool × json_parser) (x10 : List Int) (x78 : Bool) (r : (List Int) × Bool × json_parser) : Prop :=
 if x78 = true then
  ∃ r149 : Bool × json_parser, (json_parser_take r65.2.2 (⟨#[92]⟩ : ByteArray) r149) ∧
  if r149.1 = true then
   ∃ r163 : Bool × json_parser, (json_parser_take r149.2 (⟨#[117]⟩ : ByteArray) r163) ∧
   json_parser_escape_j3 x10 r65 (!r163.1) r163.2.text r163.2.at_ r163.2.out r163.2.in_ r163.2.code r
  else
   json_parser_escape_j3 x10 r65 true r149.2.text r149.2.at_ r149.2.out r149.2.in_ r149.2.code r
 else
  ∃ r176 : List Int, (unicode_utf8_AppendRune x10 r65.1 r176) ∧
  r = (r176, true, r65.2.2)
def json_parser_escape_j1 (x1 : json_parser) (x10 : List Int) (x21 : Bool) (r : (List Int) × Bool × json_parser) : Prop :=
 if x21 = true then
  (0 ≤ w64 ((w64 (x1.at_ + 1)) - 1) ∧ w64 ((w64 (x1.at_ + 1)) - 1) < (x1.text.size : Int)) ∧
  (0 ≤ bt x1.text (w64 ((w64 (x1.at_ + 1)) - 1)) ∧ bt x1.text (w64 ((w64 (x1.at_ + 1)) - 1)) < 256) ∧
  ∃ x31 : List Int, (x31 = x10 ++ ([ix tb_3 (bt x1.text (w64 ((w64 (x1.at_ + 1)) - 1)))] : List Int)) ∧
  (x31.length * 1 ≤ 211106232532992) ∧
  r = (x31, true, (⟨x1.text, w64 (x1.at_ + 1), x1.out, x1.in_, x1.code⟩ : json_parser))
 else
  ∃ r51 : Bool × json_parser, (json_parser_take x1 (⟨#[117]⟩ : ByteArray) r51) ∧
  if r51.1 = true then
   ∃ r65 : Int × Bool × json_parser, (json_parser_four r51.2 false r65) ∧
   if r65.2.1 = true then
    if r65.1 ≥ 55296 then
     json_parser_escape_j2 r65 x10 (decide (r65.1 ≤ 56319)) r
    else
     json_parser_escape_j2 r65 x10 false r
   else
    r = (x10, false, r65.2.2)
  else
   r = (x10, false, r51.2)
def json_parser_escape (x1 : json_parser) (x10 : List Int) (r : (List Int) × Bool × json_parser) : Prop :=
 if x1.at_ < (x1.text.size : Int) then
  (0 ≤ x1.at_ ∧ x1.at_ < (x1.text.size : Int)) ∧
  (0 ≤ bt x1.text x1.at_ ∧ bt x1.text x1.at_ < 256) ∧
  json_parser_escape_j1 x1 x10 ((ix tb_3 (bt x1.text x1.at_)) != 0) r
 else
  json_parser_escape_j1 x1 x10 false r
def json_parser_char_j4 (x10 : List Int) (x1 : json_parser) (x68 : Int) (x65 : Int) (x97 : Bool) (o1 : Sum (Int × Int × Int × Int) ((List Int) × Bool × json_parser)) : Prop :=
 if x97 = true then
  o1 = .inr ((x10, false, (⟨x1.text, x68, x1.out, x1.in_, x1.code⟩ : json_parser)))
 else
  o1 = .inl (w64 (x65 - 1), 128, 191, w64 (x68 + 1))
def json_parser_char_b3 (x1 : json_parser) (x10 : List Int) (x65 : Int) (x66 : Int) (x67 : Int) (x68 : Int) (o1 : Sum (Int × Int × Int × Int) ((List Int) × Bool × json_parser)) : Prop :=
 if x65 > 0 then
  if x68 = (x1.text.size : Int) then
   json_parser_char_j4 x10 x1 x68 x65 true o1
  else
   (0 ≤ x68 ∧ x68 < (x1.text.size : Int)) ∧
   if bt x1.text x68 < x66 then
    json_parser_char_j4 x10 x1 x68 x65 true o1
   else
    json_parser_char_j4 x10 x1 x68 x65 (decide (bt x1.text x68 > x67)) o1
 else
  (0 ≤ x1.at_ ∧ x1.at_ ≤ x68 ∧ x68 ≤ (x1.text.size : Int)) ∧
  ∃ x106 : List Int, (x106 = x10 ++ bsOf (x1.text.extract (x1.at_ : Int).toNat (x68 : Int).toNat)) ∧
  (x106.length * 1 ≤ 211106232532992) ∧
  o1 = .inr ((x106, true, (⟨x1.text, x68, x1.out, x1.in_, x1.code⟩ : json_parser)))
def json_parser_char_j2 (x1 : json_parser) (x10 : List Int) (x33 : Int) (x39 : Int) (x40 : Int) (r : (List Int) × Bool × json_parser) : Prop :=
 Rounds (fun (s : Int × Int × Int × Int) o => json_parser_char_b3 x1 x10 s.1 s.2.1 s.2.2.1 s.2.2.2 o) (x33, x39, x40, w64 (x1.at_ + 1)) r
def json_parser_char_j1 (x1 : json_parser) (x10 : List Int) (x33 : Int) (r : (List Int) × Bool × json_parser) : Prop :=
 if bt x1.text x1.at_ = 224 then
  json_parser_char_j2 x1 x10 x33 160 191 r
 else
  if bt x1.text x1.at_ = 237 then
   json_parser_char_j2 x1 x10 x33 128 159 r
  else
   if bt x1.text x1.at_ = 240 then
    json_parser_char_j2 x1 x10 x33 144 191 r
   else
    if bt x1.text x1.at_ = 244 then
     json_parser_char_j2 x1 x10 x33 128 143 r
    else
     json_parser_char_j2 x1 x10 x33 128 191 r
def json_parser_char_j6 (x1 : json_parser) (x10 : List Int) (x124 : Bool) (r : (List Int) × Bool × json_parser) : Prop :=
 if x124 = true then
  json_parser_char_j1 x1 x10 2 r
 else
  if bt x1.text x1.at_ ≥ 240 then
   if bt x1.text x1.at_ ≤ 244 then
    json_parser_char_j1 x1 x10 3 r
   else
    r = (x10, false, x1)
  else
   r = (x10, false, x1)
def json_parser_char_j5 (x1 : json_parser) (x10 : List Int) (x120 : Bool) (r : (List Int) × Bool × json_parser) : Prop :=
 if x120 = true then
  json_parser_char_j1 x1 x10 1 r
 else
  if bt x1.text x1.at_ ≥ 224 then
   json_parser_char_j6 x1 x10 (decide (bt x1.text x1.at_ ≤ 239)) r
  else
   json_parser_char_j6 x1 x10 false r
def json_parser_char (x1 : json_parser) (x10 : List Int) (r : (List Int) × Bool × json_parser) : Prop :=
 (0 ≤ x1.at_ ∧ x1.at_ < (x1.text.size : Int)) ∧
 if bt x1.text x1.at_ < 32 then
  r = (x10, false, x1)
 else
  if bt x1.text x1.at_ < 128 then
   json_parser_char_j1 x1 x10 0 r
  else
   if bt x1.text x1.at_ ≥ 194 then
    json_parser_char_j5 x1 x10 (decide (bt x1.text x1.at_ ≤ 223)) r
   else
    json_parser_char_j5 x1 x10 false r
def json_parser_str_b1 (x82 : List Int) (x87 : ByteArray) (x88 : Int) (x89 : List api_JNode) (x94 : Int) (x95 : Int) (o1 : Sum ((List Int) × ByteArray × Int × (List api_JNode) × Int × Int) (ByteArray × Bool × json_parser)) : Prop :=
 ∃ r154 : Bool × json_parser, (json_parser_take (⟨x87, x88, x89, x94, x95⟩ : json_parser) (⟨#[34]⟩ : ByteArray) r154) ∧
 if r154.1 = true then
  o1 = .inr ((ofBs x82, true, r154.2))
 else
  if r154.2.at_ = (r154.2.text.size : Int) then
   o1 = .inr (((⟨#[]⟩ : ByteArray), false, r154.2))
  else
   (0 ≤ r154.2.at_ ∧ r154.2.at_ < (r154.2.text.size : Int)) ∧
   if bt r154.2.text r154.2.at_ = 92 then
    ∃ r171 : (List Int) × Bool × json_parser, (json_parser_escape (⟨r154.2.text, w64 (r154.2.at_ + 1), r154.2.out, r154.2.in_, r154.2.code⟩ : json_parser) x82 r171) ∧
    if r171.2.1 = true then
     o1 = .inl (r171.1, r171.2.2.text, r171.2.2.at_, r171.2.2.out, r171.2.2.in_, r171.2.2.code)
    else
     o1 = .inr (((⟨#[]⟩ : ByteArray), false, r171.2.2))
   else
    ∃ r190 : (List Int) × Bool × json_parser, (json_parser_char r154.2 x82 r190) ∧
    if r190.2.1 = true then
     o1 = .inl (r190.1, r190.2.2.text, r190.2.2.at_, r190.2.2.out, r190.2.2.in_, r190.2.2.code)
    else
     o1 = .inr (((⟨#[]⟩ : ByteArray), false, r190.2.2))
def json_parser_str (x1 : json_parser) (r : ByteArray × Bool × json_parser) : Prop :=
 ∃ r13 : Bool × json_parser, (json_parser_take x1 (⟨#[34]⟩ : ByteArray) r13) ∧
 if r13.1 = true then
  Rounds (fun (s : (List Int) × ByteArray × Int × (List api_JNode) × Int × Int) o => json_parser_str_b1 s.1 s.2.1 s.2.2.1 s.2.2.2.1 s.2.2.2.2.1 s.2.2.2.2.2 o) (([] : List Int), r13.2.text, r13.2.at_, r13.2.out, r13.2.in_, r13.2.code) r
 else
  r = ((⟨#[]⟩ : ByteArray), false, r13.2)
def json_parser_many_j3 (rc_json_parser_value : json_parser → ByteArray → (Bool × json_parser) → Prop) (x26 : ByteArray) (x25 : Int) (x248 : Int) (x507 : ByteArray) (x508 : ByteArray) (x509 : Int) (x510 : List api_JNode) (x515 : Int) (x516 : Int) (x517 : ByteArray → Int) (o1 : Sum (Int × (ByteArray → Int) × ByteArray × Int × (List api_JNode) × Int × Int) (Int × Int × Bool × json_parser)) : Prop :=
 ∃ r521 : Bool × json_parser, (rc_json_parser_value (⟨x508, x509, x510, x515, x516⟩ : json_parser) x507 r521) ∧
 if r521.1 = true then
  ∃ r535 : json_parser, (json_parser_blanks r521.2 r535) ∧
  ∃ r548 : Bool × json_parser, (json_parser_is r535 x26 r548) ∧
  if r548.1 = true then
   o1 = .inr ((x25, x248, true, (⟨r548.2.text, w64 (r548.2.at_ + 1), r548.2.out, r548.2.in_, r548.2.code⟩ : json_parser)))
  else
   ∃ r562 : Bool × json_parser, (json_parser_take r548.2 (⟨#[44]⟩ : ByteArray) r562) ∧
   if r562.1 = true then
    ∃ r576 : json_parser, (json_parser_blanks r562.2 r576) ∧
    o1 = .inl (w64 (x248 + 1), x517, r576.text, r576.at_, r576.out, r576.in_, r576.code)
   else
    o1 = .inr ((x25, x248, false, r562.2))
 else
  o1 = .inr ((x25, x248, false, r521.2))
def json_parser_many_b2 (x25 : Int) (rc_json_parser_value : json_parser → ByteArray → (Bool × json_parser) → Prop) (x26 : ByteArray) (x248 : Int) (x249 : ByteArray → Int) (x250 : ByteArray) (x251 : Int) (x252 : List api_JNode) (x257 : Int) (x258 : Int) (o1 : Sum (Int × (ByteArray → Int) × ByteArray × Int × (List api_JNode) × Int × Int) (Int × Int × Bool × json_parser)) : Prop :=
 if x25 = 7 then
  ∃ r589 : ByteArray × Bool × json_parser, (json_parser_str (⟨x250, x251, x252, x257, x258⟩ : json_parser) r589) ∧
  if r589.2.1 = true then
   if x249 r589.1 > 0 then
    o1 = .inr ((x25, x248, false, (⟨r589.2.2.text, x251, r589.2.2.out, r589.2.2.in_, r589.2.2.code⟩ : json_parser)))
   else
    ∃ r604 : json_parser, (json_parser_blanks r589.2.2 r604) ∧
    ∃ r617 : Bool × json_parser, (json_parser_take r604 (⟨#[58]⟩ : ByteArray) r617) ∧
    if r617.1 = true then
     ∃ r631 : json_parser, (json_parser_blanks r617.2 r631) ∧
     json_parser_many_j3 rc_json_parser_value x26 x25 x248 r589.1 r631.text r631.at_ r631.out r631.in_ r631.code (updM x249 r589.1 1) o1
    else
     o1 = .inr ((x25, x248, false, r617.2))
  else
   o1 = .inr ((x25, x248, false, r589.2.2))
 else
  json_parser_many_j3 rc_json_parser_value x26 x25 x248 (⟨#[]⟩ : ByteArray) x250 x251 x252 x257 x258 x249 o1
def json_parser_many_j1 (r13 : Bool × json_parser) (rc_json_parser_value : json_parser → ByteArray → (Bool × json_parser) → Prop) (x25 : Int) (x26 : ByteArray) (r : Int × Int × Bool × json_parser) : Prop :=
 ∃ r30 : json_parser, (json_parser_blanks (⟨r13.2.text, w64 (r13.2.at_ + 1), r13.2.out, r13.2.in_, r13.2.code⟩ : json_parser) r30) ∧
 ∃ r43 : Bool × json_parser, (json_parser_is r30 x26 r43) ∧
 if r43.1 = true then
  r = (x25, 0, true, (⟨r43.2.text, w64 (r43.2.at_ + 1), r43.2.out, r43.2.in_, r43.2.code⟩ : json_parser))
 else
  Rounds (fun (s : Int × (ByteArray → Int) × ByteArray × Int × (List api_JNode) × Int × Int) o => json_parser_many_b2 x25 rc_json_parser_value x26 s.1 s.2.1 s.2.2.1 s.2.2.2.1 s.2.2.2.2.1 s.2.2.2.2.2.1 s.2.2.2.2.2.2 o) (1, (fun _ => 0), r43.2.text, r43.2.at_, r43.2.out, r43.2.in_, r43.2.code) r
def json_parser_many_body (rc_json_parser_many : json_parser → (Int × Int × Bool × json_parser) → Prop) (rc_json_parser_value : json_parser → ByteArray → (Bool × json_parser) → Prop) (x1 : json_parser) (r : Int × Int × Bool × json_parser) : Prop :=
 ∃ r13 : Bool × json_parser, (json_parser_is x1 (⟨#[123]⟩ : ByteArray) r13) ∧
 if r13.1 = true then
  json_parser_many_j1 r13 rc_json_parser_value 7 (⟨#[125]⟩ : ByteArray) r
 else
  json_parser_many_j1 r13 rc_json_parser_value 6 (⟨#[93]⟩ : ByteArray) r
def json_parser_value_j1 (x1 : json_parser) (x10 : ByteArray) (x193 : Bool) (x194 : ByteArray) (x195 : Int) (x196 : List api_JNode) (x201 : Int) (x202 : Int) (x203 : Int) (x204 : ByteArray) (x205 : Int) (r : Bool × json_parser) : Prop :=
 (0 ≤ (x1.out.length : Int) ∧ (x1.out.length : Int) < (x196.length : Int)) ∧
 ∃ x207 : List api_JNode, (x207 = x196.set ((x1.out.length : Int) : Int).toNat (⟨x203, x10, x204, x205⟩ : api_JNode)) ∧
 r = (x193, (⟨x194, x195, x207, x201, x202⟩ : json_parser))
def json_parser_value_body (rc_json_parser_many : json_parser → (Int × Int × Bool × json_parser) → Prop) (rc_json_parser_value : json_parser → ByteArray → (Bool × json_parser) → Prop) (x1 : json_parser) (x10 : ByteArray) (r : Bool × json_parser) : Prop :=
 ∃ x19 : List api_JNode, (x19 = x1.out ++ ([(⟨0, x10, (⟨#[]⟩ : ByteArray), 0⟩ : api_JNode)] : List api_JNode)) ∧
 (x19.length * 48 ≤ 211106232532992) ∧
 ∃ r45 : Bool × json_parser, (json_parser_is (⟨x1.text, x1.at_, x19, x1.in_, x1.code⟩ : json_parser) (⟨#[110]⟩ : ByteArray) r45) ∧
 if r45.1 = true then
  ∃ r215 : Bool × json_parser, (json_parser_word r45.2 (⟨#[110, 117, 108, 108]⟩ : ByteArray) r215) ∧
  json_parser_value_j1 x1 x10 r215.1 r215.2.text r215.2.at_ r215.2.out r215.2.in_ r215.2.code 1 (⟨#[]⟩ : ByteArray) 0 r
 else
  ∃ r228 : Bool × json_parser, (json_parser_is r45.2 (⟨#[102]⟩ : ByteArray) r228) ∧
  if r228.1 = true then
   ∃ r242 : Bool × json_parser, (json_parser_word r228.2 (⟨#[102, 97, 108, 115, 101]⟩ : ByteArray) r242) ∧
   json_parser_value_j1 x1 x10 r242.1 r242.2.text r242.2.at_ r242.2.out r242.2.in_ r242.2.code 2 (⟨#[]⟩ : ByteArray) 0 r
  else
   ∃ r255 : Bool × json_parser, (json_parser_is r228.2 (⟨#[116]⟩ : ByteArray) r255) ∧
   if r255.1 = true then
    ∃ r269 : Bool × json_parser, (json_parser_word r255.2 (⟨#[116, 114, 117, 101]⟩ : ByteArray) r269) ∧
    json_parser_value_j1 x1 x10 r269.1 r269.2.text r269.2.at_ r269.2.out r269.2.in_ r269.2.code 3 (⟨#[]⟩ : ByteArray) 0 r
   else
    ∃ r282 : Bool × json_parser, (json_parser_is r255.2 (⟨#[34]⟩ : ByteArray) r282) ∧
    if r282.1 = true then
     ∃ r296 : ByteArray × Bool × json_parser, (json_parser_str r282.2 r296) ∧
     json_parser_value_j1 x1 x10 r296.2.1 r296.2.2.text r296.2.2.at_ r296.2.2.out r296.2.2.in_ r296.2.2.code 5 r296.1 0 r
    else
     ∃ r309 : Bool × json_parser, (json_parser_is r282.2 (⟨#[91, 123]⟩ : ByteArray) r309) ∧
     if r309.1 = true then
      if r309.2.in_ = 64 then
       r = (false, (⟨r309.2.text, r309.2.at_, r309.2.out, r309.2.in_, 251⟩ : json_parser))
      else
       ∃ r324 : Int × Int × Bool × json_parser, (rc_json_parser_many (⟨r309.2.text, r309.2.at_, r309.2.out, w64 (r309.2.in_ + 1), r309.2.code⟩ : json_parser) r324) ∧
       json_parser_value_j1 x1 x10 r324.2.2.1 r324.2.2.2.text r324.2.2.2.at_ r324.2.2.2.out (w64 (r324.2.2.2.in_ - 1)) r324.2.2.2.code r324.1 (⟨#[]⟩ : ByteArray) r324.2.1 r
     else
      ∃ r337 : Bool × json_parser, (json_parser_number r309.2 r337) ∧
      (0 ≤ x1.at_ ∧ x1.at_ ≤ r337.2.at_ ∧ r337.2.at_ ≤ (r337.2.text.size : Int)) ∧
      json_parser_value_j1 x1 x10 r337.1 r337.2.text r337.2.at_ r337.2.out r337.2.in_ r337.2.code 4 (r337.2.text.extract (x1.at_ : Int).toNat (r337.2.at_ : Int).toNat) 0 r
def json_parser_many_all : Nat → (json_parser → (Int × Int × Bool × json_parser) → Prop) × (json_parser → ByteArray → (Bool × json_parser) → Prop)
 | 0 => (fun _ _ => False, fun _ _ _ => False)
 | n + 1 => (json_parser_many_body ((json_parser_many_all n).1) ((json_parser_many_all n).2), json_parser_value_body ((json_parser_many_all n).1) ((json_parser_many_all n).2))
def json_parser_many_n (n : Nat) : json_parser → (Int × Int × Bool × json_parser) → Prop := (json_parser_many_all n).1
def json_parser_value_n (n : Nat) : json_parser → ByteArray → (Bool × json_parser) → Prop := (json_parser_many_all n).2
def json_parser_value (x1 : json_parser) (x10 : ByteArray) (r : Bool × json_parser) : Prop := ∃ n, json_parser_value_n n x1 x10 r
def json_Parse_j1 (x46 : Bool) (x48 : Int) (x49 : List api_JNode) (x55 : Int) (r : (List api_JNode) × Int × Int) : Prop :=
 if x46 = true then
  r = (x49, 0, 0)
 else
  r = (([] : List api_JNode), x55, x48)
def json_Parse (x1 : ByteArray) (r : (List api_JNode) × Int × Int) : Prop :=
 ∃ r8 : json_parser, (json_parser_blanks (⟨x1, 0, ([] : List api_JNode), 0, 250⟩ : json_parser) r8) ∧
 ∃ r21 : Bool × json_parser, (json_parser_value r8 (⟨#[]⟩ : ByteArray) r21) ∧
 if r21.1 = true then
  ∃ r60 : json_parser, (json_parser_blanks r21.2 r60) ∧
  json_Parse_j1 (r60.at_ == (x1.size : Int)) r60.at_ r60.out r60.code r
 else
  json_Parse_j1 r21.1 r21.2.at_ r21.2.out r21.2.code r
def trellisref25_Reader_word_b1 (x11 : ByteArray) (x28 : Int) (x29 : Int) (x30 : ByteArray) (x31 : List api_JNode) (x36 : Int) (x37 : Int) (o1 : Sum (Int × Int × ByteArray × (List api_JNode) × Int × Int) (Int × trellisref25_Reader)) : Prop :=
 if x29 < (x11.size : Int) then
  (0 ≤ x29 ∧ x29 ≤ w64 (x29 + 1) ∧ w64 (x29 + 1) ≤ (x11.size : Int)) ∧
  ∃ r58 : Int × trellisref25_Reader, (trellisref25_Reader_need (⟨x30, x31, x36, x37⟩ : trellisref25_Reader) x28 (x11.extract (x29 : Int).toNat (w64 (x29 + 1) : Int).toNat) r58) ∧
  o1 = .inl (r58.1, w64 (x29 + 1), r58.2.s, r58.2.l, r58.2.e, r58.2.at_)
 else
  o1 = .inr ((x28, (⟨x30, x31, x36, x37⟩ : trellisref25_Reader)))
def trellisref25_Reader_word (x1 : trellisref25_Reader) (x10 : Int) (x11 : ByteArray) (r : Int × trellisref25_Reader) : Prop :=
 Rounds (fun (s : Int × Int × ByteArray × (List api_JNode) × Int × Int) o => trellisref25_Reader_word_b1 x11 s.1 s.2.1 s.2.2.1 s.2.2.2.1 s.2.2.2.2.1 s.2.2.2.2.2 o) (x10, 0, x1.s, x1.l, x1.e, x1.at_) r
def trellisref25_digitOf_b1 (x1 : Int) (x5 : Int) (o1 : Sum Int Int) : Prop :=
 if x5 < 16 then
  (0 ≤ x5 ∧ x5 < ((⟨#[48, 49, 50, 51, 52, 53, 54, 55, 56, 57, 97, 98, 99, 100, 101, 102, 65, 66, 67, 68, 69, 70]⟩ : ByteArray).size : Int)) ∧
  if bt (⟨#[48, 49, 50, 51, 52, 53, 54, 55, 56, 57, 97, 98, 99, 100, 101, 102, 65, 66, 67, 68, 69, 70]⟩ : ByteArray) x5 = x1 then
   o1 = .inr (x5)
  else
   o1 = .inl (w64 (x5 + 1))
 else
  o1 = .inr (w64 ((w64 ((w64 (x1)) - 65)) + 10))
def trellisref25_digitOf (x1 : Int) (r : Int) : Prop :=
 Rounds (fun (s : Int) o => trellisref25_digitOf_b1 x1 s o) 0 r
def trellisref25_Reader_four_j3 (x40 : ByteArray) (x41 : List api_JNode) (x46 : Int) (x47 : Int) (x37 : Int) (x38 : Int) (x39 : Int) (x84 : ByteArray) (o1 : Sum (Int × Int × Int × ByteArray × (List api_JNode) × Int × Int) (Int × Int × trellisref25_Reader)) : Prop :=
 ∃ r88 : Int × trellisref25_Reader, (trellisref25_Reader_need (⟨x40, x41, x46, x47⟩ : trellisref25_Reader) x37 x84 r88) ∧
 if r88.2.e = 0 then
  (0 ≤ w64 (r88.1 - 1) ∧ w64 (r88.1 - 1) < (r88.2.s.size : Int)) ∧
  ∃ r103 : Int, (trellisref25_digitOf (bt r88.2.s (w64 (r88.1 - 1))) r103) ∧
  o1 = .inl (r88.1, w64 ((w64 (16 * x38)) + r103), w64 (x39 + 1), r88.2.s, r88.2.l, r88.2.e, r88.2.at_)
 else
  o1 = .inr ((0, r88.1, r88.2))
def trellisref25_Reader_four_j2 (x39 : Int) (x40 : ByteArray) (x41 : List api_JNode) (x46 : Int) (x47 : Int) (x37 : Int) (x38 : Int) (x12 : ByteArray) (x81 : ByteArray) (o1 : Sum (Int × Int × Int × ByteArray × (List api_JNode) × Int × Int) (Int × Int × trellisref25_Reader)) : Prop :=
 if x39 = 1 then
  trellisref25_Reader_four_j3 x40 x41 x46 x47 x37 x38 x39 x12 o1
 else
  trellisref25_Reader_four_j3 x40 x41 x46 x47 x37 x38 x39 x81 o1
def trellisref25_Reader_four_b1 (x12 : ByteArray) (x11 : ByteArray) (x37 : Int) (x38 : Int) (x39 : Int) (x40 : ByteArray) (x41 : List api_JNode) (x46 : Int) (x47 : Int) (o1 : Sum (Int × Int × Int × ByteArray × (List api_JNode) × Int × Int) (Int × Int × trellisref25_Reader)) : Prop :=
 if x39 < 4 then
  if x39 = 0 then
   trellisref25_Reader_four_j2 x39 x40 x41 x46 x47 x37 x38 x12 x11 o1
  else
   trellisref25_Reader_four_j2 x39 x40 x41 x46 x47 x37 x38 x12 (⟨#[48, 49, 50, 51, 52, 53, 54, 55, 56, 57, 97, 98, 99, 100, 101, 102, 65, 66, 67, 68, 69, 70]⟩ : ByteArray) o1
 else
  o1 = .inr ((x38, x37, (⟨x40, x41, x46, x47⟩ : trellisref25_Reader)))
def trellisref25_Reader_four (x1 : trellisref25_Reader) (x10 : Int) (x11 : ByteArray) (x12 : ByteArray) (r : Int × Int × trellisref25_Reader) : Prop :=
 Rounds (fun (s : Int × Int × Int × ByteArray × (List api_JNode) × Int × Int) o => trellisref25_Reader_four_b1 x12 x11 s.1 s.2.1 s.2.2.1 s.2.2.2.1 s.2.2.2.2.1 s.2.2.2.2.2.1 s.2.2.2.2.2.2 o) (x10, 0, 0, x1.s, x1.l, x1.e, x1.at_) r
def trellisref25_utf8 (x1 : Int) (r : List Int) : Prop :=
 if x1 < 128 then
  r = ([IntKind.u8.wrap (x1)] : List Int)
 else
  if x1 < 2048 then
   r = ([IntKind.u8.wrap (w64 (192 + (w64 (Int.tdiv x1 64)))), IntKind.u8.wrap (w64 (128 + (Int.tmod x1 64)))] : List Int)
  else
   if x1 < 65536 then
    r = ([IntKind.u8.wrap (w64 (224 + (w64 (Int.tdiv x1 4096)))), IntKind.u8.wrap (w64 (128 + (Int.tmod (w64 (Int.tdiv x1 64)) 64))), IntKind.u8.wrap (w64 (128 + (Int.tmod x1 64)))] : List Int)
   else
    r = ([IntKind.u8.wrap (w64 (240 + (w64 (Int.tdiv x1 262144)))), IntKind.u8.wrap (w64 (128 + (Int.tmod (w64 (Int.tdiv x1 4096)) 64))), IntKind.u8.wrap (w64 (128 + (Int.tmod (w64 (Int.tdiv x1 64)) 64))), IntKind.u8.wrap (w64 (128 + (Int.tmod x1 64)))] : List Int)
def trellisref25_Reader_escape_j3 (r228 : Int × Int × trellisref25_Reader) (x241 : Bool) (o1 : Sum (Int × ByteArray × (List api_JNode) × Int × Int) ((List Int) × Int × trellisref25_Reader)) : Prop :=
 if x241 = true then
  ∃ r246 : List Int, (trellisref25_utf8 r228.1 r246) ∧
  o1 = .inr ((r246, r228.2.1, r228.2.2))
 else
  ∃ r259 : Int × trellisref25_Reader, (trellisref25_Reader_need r228.2.2 r228.2.1 (⟨#[92]⟩ : ByteArray) r259) ∧
  ∃ r272 : Int × trellisref25_Reader, (trellisref25_Reader_need r259.2 r259.1 (⟨#[117]⟩ : ByteArray) r272) ∧
  ∃ r285 : Int × Int × trellisref25_Reader, (trellisref25_Reader_four r272.2 r272.1 (⟨#[100, 68]⟩ : ByteArray) (⟨#[99, 100, 101, 102, 67, 68, 69, 70]⟩ : ByteArray) r285) ∧
  ∃ r298 : List Int, (trellisref25_utf8 (w64 ((w64 ((w64 (65536 + (w64 (1024 * (w64 (r228.1 - 55296)))))) + r285.1)) - 56320)) r298) ∧
  o1 = .inr ((r298, r285.2.1, r285.2.2))
def trellisref25_Reader_escape_j2 (r212 : Bool × trellisref25_Reader) (r198 : Int × trellisref25_Reader) (x224 : ByteArray) (o1 : Sum (Int × ByteArray × (List api_JNode) × Int × Int) ((List Int) × Int × trellisref25_Reader)) : Prop :=
 ∃ r228 : Int × Int × trellisref25_Reader, (trellisref25_Reader_four r212.2 r198.1 (⟨#[48, 49, 50, 51, 52, 53, 54, 55, 56, 57, 97, 98, 99, 100, 101, 102, 65, 66, 67, 68, 69, 70]⟩ : ByteArray) x224 r228) ∧
 if r228.2.2.e = 0 then
  if r228.1 < 55296 then
   trellisref25_Reader_escape_j3 r228 true o1
  else
   trellisref25_Reader_escape_j3 r228 (decide (r228.1 > 56319)) o1
 else
  trellisref25_Reader_escape_j3 r228 true o1
def trellisref25_Reader_escape_b1 (x10 : Int) (x31 : Int) (x32 : ByteArray) (x33 : List api_JNode) (x38 : Int) (x39 : Int) (o1 : Sum (Int × ByteArray × (List api_JNode) × Int × Int) ((List Int) × Int × trellisref25_Reader)) : Prop :=
 if x31 < 8 then
  (0 ≤ x31 ∧ x31 ≤ w64 (x31 + 1) ∧ w64 (x31 + 1) ≤ ((⟨#[34, 92, 47, 98, 102, 110, 114, 116]⟩ : ByteArray).size : Int)) ∧
  ∃ r180 : Bool × trellisref25_Reader, (trellisref25_Reader_has (⟨x32, x33, x38, x39⟩ : trellisref25_Reader) (w64 (x10 + 1)) ((⟨#[34, 92, 47, 98, 102, 110, 114, 116]⟩ : ByteArray).extract (x31 : Int).toNat (w64 (x31 + 1) : Int).toNat) r180) ∧
  if r180.1 = true then
   (0 ≤ x31 ∧ x31 < ((⟨#[34, 92, 47, 8, 12, 10, 13, 9]⟩ : ByteArray).size : Int)) ∧
   o1 = .inr ((([bt (⟨#[34, 92, 47, 8, 12, 10, 13, 9]⟩ : ByteArray) x31] : List Int), w64 (x10 + 2), r180.2))
  else
   o1 = .inl (w64 (x31 + 1), r180.2.s, r180.2.l, r180.2.e, r180.2.at_)
 else
  ∃ r198 : Int × trellisref25_Reader, (trellisref25_Reader_need (⟨x32, x33, x38, x39⟩ : trellisref25_Reader) (w64 (x10 + 1)) (⟨#[117]⟩ : ByteArray) r198) ∧
  if r198.2.e = 0 then
   ∃ r212 : Bool × trellisref25_Reader, (trellisref25_Reader_has r198.2 r198.1 (⟨#[100, 68]⟩ : ByteArray) r212) ∧
   if r212.1 = true then
    trellisref25_Reader_escape_j2 r212 r198 (⟨#[48, 49, 50, 51, 52, 53, 54, 55, 56, 57, 97, 98, 65, 66]⟩ : ByteArray) o1
   else
    trellisref25_Reader_escape_j2 r212 r198 (⟨#[48, 49, 50, 51, 52, 53, 54, 55, 56, 57, 97, 98, 99, 100, 101, 102, 65, 66, 67, 68, 69, 70]⟩ : ByteArray) o1
  else
   o1 = .inr ((([] : List Int), r198.1, r198.2))
def trellisref25_Reader_escape (x1 : trellisref25_Reader) (x10 : Int) (r : (List Int) × Int × trellisref25_Reader) : Prop :=
 Rounds (fun (s : Int × ByteArray × (List api_JNode) × Int × Int) o => trellisref25_Reader_escape_b1 x10 s.1 s.2.1 s.2.2.1 s.2.2.2.1 s.2.2.2.2 o) (0, x1.s, x1.l, x1.e, x1.at_) r
def trellisref25_Reader_str_j3 (x269 : ByteArray) (x270 : List api_JNode) (x275 : Int) (x276 : Int) (x133 : Int) (x134 : List Int) (x281 : Bool) (o1 : Sum (Int × (List Int) × ByteArray × (List api_JNode) × Int × Int) (ByteArray × Int × trellisref25_Reader)) : Prop :=
 if x281 = true then
  ∃ r286 : Int × trellisref25_Reader, (trellisref25_Reader_stop (⟨x269, x270, x275, x276⟩ : trellisref25_Reader) 250 x133 r286) ∧
  o1 = .inl (x133, x134, r286.2.s, r286.2.l, r286.2.e, r286.2.at_)
 else
  (0 ≤ x133 ∧ x133 < (x269.size : Int)) ∧
  if bt x269 x133 = 92 then
   ∃ r301 : (List Int) × Int × trellisref25_Reader, (trellisref25_Reader_escape (⟨x269, x270, x275, x276⟩ : trellisref25_Reader) x133 r301) ∧
   ∃ x319 : List Int, (x319 = x134 ++ r301.1) ∧
   (x319.length * 1 ≤ 211106232532992) ∧
   o1 = .inl (r301.2.1, x319, r301.2.2.s, r301.2.2.l, r301.2.2.e, r301.2.2.at_)
  else
   ∃ r325 : Int × trellisref25_Reader, (trellisref25_Reader_char (⟨x269, x270, x275, x276⟩ : trellisref25_Reader) x133 r325) ∧
   if r325.2.e = 0 then
    (0 ≤ x133 ∧ x133 ≤ r325.1 ∧ r325.1 ≤ (r325.2.s.size : Int)) ∧
    ∃ x340 : List Int, (x340 = x134 ++ bsOf (r325.2.s.extract (x133 : Int).toNat (r325.1 : Int).toNat)) ∧
    (x340.length * 1 ≤ 211106232532992) ∧
    o1 = .inl (r325.1, x340, r325.2.s, r325.2.l, r325.2.e, r325.2.at_)
   else
    o1 = .inl (r325.1, x134, r325.2.s, r325.2.l, r325.2.e, r325.2.at_)
def trellisref25_Reader_str_j2 (x133 : Int) (x134 : List Int) (x268 : Bool) (x269 : ByteArray) (x270 : List api_JNode) (x275 : Int) (x276 : Int) (o1 : Sum (Int × (List Int) × ByteArray × (List api_JNode) × Int × Int) (ByteArray × Int × trellisref25_Reader)) : Prop :=
 if x268 = true then
  if x133 ≥ (x269.size : Int) then
   trellisref25_Reader_str_j3 x269 x270 x275 x276 x133 x134 true o1
  else
   (0 ≤ x133 ∧ x133 < (x269.size : Int)) ∧
   trellisref25_Reader_str_j3 x269 x270 x275 x276 x133 x134 (decide (bt x269 x133 < 32)) o1
 else
  o1 = .inr ((ofBs x134, w64 (x133 + 1), (⟨x269, x270, x275, x276⟩ : trellisref25_Reader)))
def trellisref25_Reader_str_b1 (x133 : Int) (x134 : List Int) (x139 : ByteArray) (x140 : List api_JNode) (x145 : Int) (x146 : Int) (o1 : Sum (Int × (List Int) × ByteArray × (List api_JNode) × Int × Int) (ByteArray × Int × trellisref25_Reader)) : Prop :=
 if x145 = 0 then
  ∃ r349 : Bool × trellisref25_Reader, (trellisref25_Reader_has (⟨x139, x140, x145, x146⟩ : trellisref25_Reader) x133 (⟨#[34]⟩ : ByteArray) r349) ∧
  trellisref25_Reader_str_j2 x133 x134 (!r349.1) r349.2.s r349.2.l r349.2.e r349.2.at_ o1
 else
  trellisref25_Reader_str_j2 x133 x134 false x139 x140 x145 x146 o1
def trellisref25_Reader_str (x1 : trellisref25_Reader) (x10 : Int) (r : ByteArray × Int × trellisref25_Reader) : Prop :=
 ∃ r14 : Int × trellisref25_Reader, (trellisref25_Reader_need x1 x10 (⟨#[34]⟩ : ByteArray) r14) ∧
 Rounds (fun (s : Int × (List Int) × ByteArray × (List api_JNode) × Int × Int) o => trellisref25_Reader_str_b1 s.1 s.2.1 s.2.2.1 s.2.2.2.1 s.2.2.2.2.1 s.2.2.2.2.2 o) (r14.1, ([] : List Int), r14.2.s, r14.2.l, r14.2.e, r14.2.at_) r
def trellisref25_Reader_key_j2 (x90 : Int) (x11 : List ByteArray) (r19 : ByteArray × Int × trellisref25_Reader) (x91 : ByteArray) (x92 : List api_JNode) (x97 : Int) (x98 : Int) (x10 : Int) (x161 : Bool) (o1 : Sum (Int × ByteArray × (List api_JNode) × Int × Int) (ByteArray × Int × trellisref25_Reader)) : Prop :=
 if x161 = true then
  (0 ≤ x90 ∧ x90 < (x11.length : Int)) ∧
  if ix x11 x90 = r19.1 then
   ∃ r169 : Int × trellisref25_Reader, (trellisref25_Reader_stop (⟨x91, x92, x97, x98⟩ : trellisref25_Reader) 250 x10 r169) ∧
   o1 = .inl (w64 (x90 + 1), r169.2.s, r169.2.l, r169.2.e, r169.2.at_)
  else
   o1 = .inl (w64 (x90 + 1), x91, x92, x97, x98)
 else
  ∃ r182 : Int × trellisref25_Reader, (trellisref25_Reader_skip (⟨x91, x92, x97, x98⟩ : trellisref25_Reader) r19.2.1 (⟨#[32, 9, 10, 13]⟩ : ByteArray) r182) ∧
  ∃ r195 : Int × trellisref25_Reader, (trellisref25_Reader_need r182.2 r182.1 (⟨#[58]⟩ : ByteArray) r195) ∧
  ∃ r208 : Int × trellisref25_Reader, (trellisref25_Reader_skip r195.2 r195.1 (⟨#[32, 9, 10, 13]⟩ : ByteArray) r208) ∧
  o1 = .inr ((r19.1, r208.1, r208.2))
def trellisref25_Reader_key_b1 (x11 : List ByteArray) (r19 : ByteArray × Int × trellisref25_Reader) (x10 : Int) (x90 : Int) (x91 : ByteArray) (x92 : List api_JNode) (x97 : Int) (x98 : Int) (o1 : Sum (Int × ByteArray × (List api_JNode) × Int × Int) (ByteArray × Int × trellisref25_Reader)) : Prop :=
 if x90 < (x11.length : Int) then
  trellisref25_Reader_key_j2 x90 x11 r19 x91 x92 x97 x98 x10 (x97 == 0) o1
 else
  trellisref25_Reader_key_j2 x90 x11 r19 x91 x92 x97 x98 x10 false o1
def trellisref25_Reader_key (x1 : trellisref25_Reader) (x10 : Int) (x11 : List ByteArray) (r : ByteArray × Int × trellisref25_Reader) : Prop :=
 ∃ r19 : ByteArray × Int × trellisref25_Reader, (trellisref25_Reader_str x1 x10 r19) ∧
 Rounds (fun (s : Int × ByteArray × (List api_JNode) × Int × Int) o => trellisref25_Reader_key_b1 x11 r19 x10 s.1 s.2.1 s.2.2.1 s.2.2.2.1 s.2.2.2.2 o) (0, r19.2.2.s, r19.2.2.l, r19.2.2.e, r19.2.2.at_) r
def trellisref25_Reader_all_j5 (x229 : Int) (r482 : Int × trellisref25_Reader) (x441 : List ByteArray) (x507 : Bool) (x508 : ByteArray) (x509 : List api_JNode) (x514 : Int) (x515 : Int) (o1 : Sum (Int × (List ByteArray) × Int × ByteArray × (List api_JNode) × Int × Int) (Int × Int × trellisref25_Reader)) : Prop :=
 if x507 = true then
  o1 = .inr ((w64 (x229 + 1), w64 (r482.1 + 1), (⟨x508, x509, x514, x515⟩ : trellisref25_Reader)))
 else
  ∃ r520 : Int × trellisref25_Reader, (trellisref25_Reader_need (⟨x508, x509, x514, x515⟩ : trellisref25_Reader) r482.1 (⟨#[44]⟩ : ByteArray) r520) ∧
  ∃ r533 : Int × trellisref25_Reader, (trellisref25_Reader_skip r520.2 r520.1 (⟨#[32, 9, 10, 13]⟩ : ByteArray) r533) ∧
  o1 = .inl (r533.1, x441, w64 (x229 + 1), r533.2.s, r533.2.l, r533.2.e, r533.2.at_)
def trellisref25_Reader_all_j4 (x15 : ByteArray) (x229 : Int) (x441 : List ByteArray) (x470 : Int) (x471 : ByteArray) (x472 : List api_JNode) (x477 : Int) (x478 : Int) (o1 : Sum (Int × (List ByteArray) × Int × ByteArray × (List api_JNode) × Int × Int) (Int × Int × trellisref25_Reader)) : Prop :=
 ∃ r482 : Int × trellisref25_Reader, (trellisref25_Reader_skip (⟨x471, x472, x477, x478⟩ : trellisref25_Reader) x470 (⟨#[32, 9, 10, 13]⟩ : ByteArray) r482) ∧
 if r482.2.e = 0 then
  ∃ r547 : Bool × trellisref25_Reader, (trellisref25_Reader_has r482.2 r482.1 x15 r547) ∧
  trellisref25_Reader_all_j5 x229 r482 x441 r547.1 r547.2.s r547.2.l r547.2.e r547.2.at_ o1
 else
  trellisref25_Reader_all_j5 x229 r482 x441 false r482.2.s r482.2.l r482.2.e r482.2.at_ o1
def trellisref25_Reader_all_j3 (rc_trellisref25_Reader_value : trellisref25_Reader → Int → ByteArray → Int → (Int × trellisref25_Reader) → Prop) (x12 : Int) (x15 : ByteArray) (x229 : Int) (x440 : Int) (x441 : List ByteArray) (x446 : ByteArray) (x447 : ByteArray) (x448 : List api_JNode) (x453 : Int) (x454 : Int) (o1 : Sum (Int × (List ByteArray) × Int × ByteArray × (List api_JNode) × Int × Int) (Int × Int × trellisref25_Reader)) : Prop :=
 if x453 = 0 then
  ∃ r560 : Int × trellisref25_Reader, (rc_trellisref25_Reader_value (⟨x447, x448, x453, x454⟩ : trellisref25_Reader) x440 x446 x12 r560) ∧
  trellisref25_Reader_all_j4 x15 x229 x441 r560.1 r560.2.s r560.2.l r560.2.e r560.2.at_ o1
 else
  trellisref25_Reader_all_j4 x15 x229 x441 x440 x447 x448 x453 x454 o1
def trellisref25_Reader_all_b2 (x11 : Int) (rc_trellisref25_Reader_value : trellisref25_Reader → Int → ByteArray → Int → (Int × trellisref25_Reader) → Prop) (x12 : Int) (x15 : ByteArray) (x223 : Int) (x224 : List ByteArray) (x229 : Int) (x230 : ByteArray) (x231 : List api_JNode) (x236 : Int) (x237 : Int) (o1 : Sum (Int × (List ByteArray) × Int × ByteArray × (List api_JNode) × Int × Int) (Int × Int × trellisref25_Reader)) : Prop :=
 if x236 = 0 then
  if x11 = 7 then
   ∃ r573 : ByteArray × Int × trellisref25_Reader, (trellisref25_Reader_key (⟨x230, x231, x236, x237⟩ : trellisref25_Reader) x223 x224 r573) ∧
   ∃ x589 : List ByteArray, (x589 = x224 ++ ([r573.1] : List ByteArray)) ∧
   (x589.length * 16 ≤ 211106232532992) ∧
   trellisref25_Reader_all_j3 rc_trellisref25_Reader_value x12 x15 x229 r573.2.1 x589 r573.1 r573.2.2.s r573.2.2.l r573.2.2.e r573.2.2.at_ o1
  else
   trellisref25_Reader_all_j3 rc_trellisref25_Reader_value x12 x15 x229 x223 x224 (⟨#[]⟩ : ByteArray) x230 x231 x236 x237 o1
 else
  o1 = .inr ((x229, x223, (⟨x230, x231, x236, x237⟩ : trellisref25_Reader)))
def trellisref25_Reader_all_j1 (x1 : trellisref25_Reader) (x10 : Int) (x11 : Int) (rc_trellisref25_Reader_value : trellisref25_Reader → Int → ByteArray → Int → (Int × trellisref25_Reader) → Prop) (x12 : Int) (x15 : ByteArray) (r : Int × Int × trellisref25_Reader) : Prop :=
 ∃ r19 : Int × trellisref25_Reader, (trellisref25_Reader_skip x1 (w64 (x10 + 1)) (⟨#[32, 9, 10, 13]⟩ : ByteArray) r19) ∧
 ∃ r32 : Bool × trellisref25_Reader, (trellisref25_Reader_has r19.2 r19.1 x15 r32) ∧
 if r32.1 = true then
  r = (0, w64 (r19.1 + 1), r32.2)
 else
  Rounds (fun (s : Int × (List ByteArray) × Int × ByteArray × (List api_JNode) × Int × Int) o => trellisref25_Reader_all_b2 x11 rc_trellisref25_Reader_value x12 x15 s.1 s.2.1 s.2.2.1 s.2.2.2.1 s.2.2.2.2.1 s.2.2.2.2.2.1 s.2.2.2.2.2.2 o) (r19.1, ([] : List ByteArray), 0, r32.2.s, r32.2.l, r32.2.e, r32.2.at_) r
def trellisref25_Reader_all_body (rc_trellisref25_Reader_all : trellisref25_Reader → Int → Int → Int → (Int × Int × trellisref25_Reader) → Prop) (rc_trellisref25_Reader_value : trellisref25_Reader → Int → ByteArray → Int → (Int × trellisref25_Reader) → Prop) (x1 : trellisref25_Reader) (x10 : Int) (x11 : Int) (x12 : Int) (r : Int × Int × trellisref25_Reader) : Prop :=
 if x11 = 7 then
  trellisref25_Reader_all_j1 x1 x10 x11 rc_trellisref25_Reader_value x12 (⟨#[125]⟩ : ByteArray) r
 else
  trellisref25_Reader_all_j1 x1 x10 x11 rc_trellisref25_Reader_value x12 (⟨#[93]⟩ : ByteArray) r
def trellisref25_Reader_value_j1 (x1 : trellisref25_Reader) (x11 : ByteArray) (x213 : Int) (x214 : ByteArray) (x215 : List api_JNode) (x220 : Int) (x221 : Int) (x222 : Int) (x223 : ByteArray) (x224 : Int) (r : Int × trellisref25_Reader) : Prop :=
 (0 ≤ (x1.l.length : Int) ∧ (x1.l.length : Int) < (x215.length : Int)) ∧
 ∃ x226 : List api_JNode, (x226 = x215.set ((x1.l.length : Int) : Int).toNat (⟨x222, x11, x223, x224⟩ : api_JNode)) ∧
 r = (x213, (⟨x214, x226, x220, x221⟩ : trellisref25_Reader))
def trellisref25_Reader_value_j2 (x12 : Int) (r328 : Bool × trellisref25_Reader) (x10 : Int) (rc_trellisref25_Reader_all : trellisref25_Reader → Int → Int → Int → (Int × Int × trellisref25_Reader) → Prop) (x1 : trellisref25_Reader) (x11 : ByteArray) (x342 : Int) (r : Int × trellisref25_Reader) : Prop :=
 if x12 ≥ 64 then
  ∃ r347 : Int × trellisref25_Reader, (trellisref25_Reader_stop r328.2 251 x10 r347) ∧
  r = (r347.1, r347.2)
 else
  ∃ r360 : Int × Int × trellisref25_Reader, (rc_trellisref25_Reader_all r328.2 x10 x342 (w64 (x12 + 1)) r360) ∧
  trellisref25_Reader_value_j1 x1 x11 r360.2.1 r360.2.2.s r360.2.2.l r360.2.2.e r360.2.2.at_ x342 (⟨#[]⟩ : ByteArray) r360.1 r
def trellisref25_Reader_value_body (rc_trellisref25_Reader_all : trellisref25_Reader → Int → Int → Int → (Int × Int × trellisref25_Reader) → Prop) (rc_trellisref25_Reader_value : trellisref25_Reader → Int → ByteArray → Int → (Int × trellisref25_Reader) → Prop) (x1 : trellisref25_Reader) (x10 : Int) (x11 : ByteArray) (x12 : Int) (r : Int × trellisref25_Reader) : Prop :=
 ∃ x21 : List api_JNode, (x21 = x1.l ++ ([(⟨0, x11, (⟨#[]⟩ : ByteArray), 0⟩ : api_JNode)] : List api_JNode)) ∧
 (x21.length * 48 ≤ 211106232532992) ∧
 ∃ r47 : Bool × trellisref25_Reader, (trellisref25_Reader_has (⟨x1.s, x21, x1.e, x1.at_⟩ : trellisref25_Reader) x10 (⟨#[110]⟩ : ByteArray) r47) ∧
 if r47.1 = true then
  ∃ r234 : Int × trellisref25_Reader, (trellisref25_Reader_word r47.2 x10 (⟨#[110, 117, 108, 108]⟩ : ByteArray) r234) ∧
  trellisref25_Reader_value_j1 x1 x11 r234.1 r234.2.s r234.2.l r234.2.e r234.2.at_ 1 (⟨#[]⟩ : ByteArray) 0 r
 else
  ∃ r247 : Bool × trellisref25_Reader, (trellisref25_Reader_has r47.2 x10 (⟨#[102]⟩ : ByteArray) r247) ∧
  if r247.1 = true then
   ∃ r261 : Int × trellisref25_Reader, (trellisref25_Reader_word r247.2 x10 (⟨#[102, 97, 108, 115, 101]⟩ : ByteArray) r261) ∧
   trellisref25_Reader_value_j1 x1 x11 r261.1 r261.2.s r261.2.l r261.2.e r261.2.at_ 2 (⟨#[]⟩ : ByteArray) 0 r
  else
   ∃ r274 : Bool × trellisref25_Reader, (trellisref25_Reader_has r247.2 x10 (⟨#[116]⟩ : ByteArray) r274) ∧
   if r274.1 = true then
    ∃ r288 : Int × trellisref25_Reader, (trellisref25_Reader_word r274.2 x10 (⟨#[116, 114, 117, 101]⟩ : ByteArray) r288) ∧
    trellisref25_Reader_value_j1 x1 x11 r288.1 r288.2.s r288.2.l r288.2.e r288.2.at_ 3 (⟨#[]⟩ : ByteArray) 0 r
   else
    ∃ r301 : Bool × trellisref25_Reader, (trellisref25_Reader_has r274.2 x10 (⟨#[34]⟩ : ByteArray) r301) ∧
    if r301.1 = true then
     ∃ r315 : ByteArray × Int × trellisref25_Reader, (trellisref25_Reader_str r301.2 x10 r315) ∧
     trellisref25_Reader_value_j1 x1 x11 r315.2.1 r315.2.2.s r315.2.2.l r315.2.2.e r315.2.2.at_ 5 r315.1 0 r
    else
     ∃ r328 : Bool × trellisref25_Reader, (trellisref25_Reader_has r301.2 x10 (⟨#[91, 123]⟩ : ByteArray) r328) ∧
     if r328.1 = true then
      (0 ≤ x10 ∧ x10 < (r328.2.s.size : Int)) ∧
      if bt r328.2.s x10 = 123 then
       trellisref25_Reader_value_j2 x12 r328 x10 rc_trellisref25_Reader_all x1 x11 7 r
      else
       trellisref25_Reader_value_j2 x12 r328 x10 rc_trellisref25_Reader_all x1 x11 6 r
     else
      ∃ r373 : Int × trellisref25_Reader, (trellisref25_Reader_number r328.2 x10 r373) ∧
      if r373.2.e = 0 then
       (0 ≤ x10 ∧ x10 ≤ r373.1 ∧ r373.1 ≤ (r373.2.s.size : Int)) ∧
       trellisref25_Reader_value_j1 x1 x11 r373.1 r373.2.s r373.2.l r373.2.e r373.2.at_ 4 (r373.2.s.extract (x10 : Int).toNat (r373.1 : Int).toNat) 0 r
      else
       trellisref25_Reader_value_j1 x1 x11 r373.1 r373.2.s r373.2.l r373.2.e r373.2.at_ 4 (⟨#[]⟩ : ByteArray) 0 r
def trellisref25_Reader_all_all : Nat → (trellisref25_Reader → Int → Int → Int → (Int × Int × trellisref25_Reader) → Prop) × (trellisref25_Reader → Int → ByteArray → Int → (Int × trellisref25_Reader) → Prop)
 | 0 => (fun _ _ _ _ _ => False, fun _ _ _ _ _ => False)
 | n + 1 => (trellisref25_Reader_all_body ((trellisref25_Reader_all_all n).1) ((trellisref25_Reader_all_all n).2), trellisref25_Reader_value_body ((trellisref25_Reader_all_all n).1) ((trellisref25_Reader_all_all n).2))
def trellisref25_Reader_all_n (n : Nat) : trellisref25_Reader → Int → Int → Int → (Int × Int × trellisref25_Reader) → Prop := (trellisref25_Reader_all_all n).1
def trellisref25_Reader_value_n (n : Nat) : trellisref25_Reader → Int → ByteArray → Int → (Int × trellisref25_Reader) → Prop := (trellisref25_Reader_all_all n).2
def trellisref25_Reader_value (x1 : trellisref25_Reader) (x10 : Int) (x11 : ByteArray) (x12 : Int) (r : Int × trellisref25_Reader) : Prop := ∃ n, trellisref25_Reader_value_n n x1 x10 x11 x12 r
def trellisref25_Parse_j2 (x63 : List api_JNode) (x68 : Int) (x69 : Int) (r : (List api_JNode) × Int × Int) : Prop :=
 if x68 = 0 then
  r = (x63, 0, 0)
 else
  r = (([] : List api_JNode), x68, x69)
def trellisref25_Parse_j1 (r34 : Int × trellisref25_Reader) (x46 : Bool) (r : (List api_JNode) × Int × Int) : Prop :=
 if x46 = true then
  ∃ r74 : Int × trellisref25_Reader, (trellisref25_Reader_stop r34.2 250 r34.1 r74) ∧
  trellisref25_Parse_j2 r74.2.l r74.2.e r74.2.at_ r
 else
  trellisref25_Parse_j2 r34.2.l r34.2.e r34.2.at_ r
def trellisref25_Parse (x1 : ByteArray) (r : (List api_JNode) × Int × Int) : Prop :=
 ∃ r8 : Int × trellisref25_Reader, (trellisref25_Reader_skip (⟨x1, ([] : List api_JNode), 0, 0⟩ : trellisref25_Reader) 0 (⟨#[32, 9, 10, 13]⟩ : ByteArray) r8) ∧
 ∃ r21 : Int × trellisref25_Reader, (trellisref25_Reader_value r8.2 r8.1 (⟨#[]⟩ : ByteArray) 0 r21) ∧
 ∃ r34 : Int × trellisref25_Reader, (trellisref25_Reader_skip r21.2 r21.1 (⟨#[32, 9, 10, 13]⟩ : ByteArray) r34) ∧
 if r34.2.e = 0 then
  trellisref25_Parse_j1 r34 (decide (r34.1 < (x1.size : Int))) r
 else
  trellisref25_Parse_j1 r34 false r
def trellislaw25_JsonParses (x1 : ByteArray) (r : Bool) : Prop :=
 ∃ r5 : (List api_JNode) × Int × Int, (json_Parse x1 r5) ∧
 ∃ r18 : (List api_JNode) × Int × Int, (trellisref25_Parse x1 r18) ∧
 ∃ r31 : Bool, (trellislaw25_same r5.1 r18.1 r31) ∧
 if r31 = true then
  if r5.2.1 = r18.2.1 then
   r = (r5.2.2 == r18.2.2)
  else
   r = false
 else
  r = false
end Go.Proofs.YtmfopcbjgbphaaaDoor.R
