/- What the functions answer, as plain relations, printed by my own tool off the program's translation. No condition. -/
import Derived.Test.YtmfopcbjgbphaaaDoorP0
import Derived.Lib.ValidU
set_option linter.unusedVariables false
namespace Go.Proofs.YtmfopcbjgbphaaaDoor.R
open Go.Proofs.YtmfopcbjgbphaaaDoor.B
def tb_0 : List Int := [0, 0, 0, 0, 0, 0, 0, 0, 98, 116, 110, 0, 102, 114, 0, 0, 0, 0, 0, 0, 0, 0, 0, 0, 0, 0, 0, 0, 0, 0, 0, 0, 0, 0, 34, 0, 0, 0, 0, 0, 0, 0, 0, 0, 0, 0, 0, 0, 0, 0, 0, 0, 0, 0, 0, 0, 0, 0, 0, 0, 0, 0, 0, 0, 0, 0, 0, 0, 0, 0, 0, 0, 0, 0, 0, 0, 0, 0, 0, 0, 0, 0, 0, 0, 0, 0, 0, 0, 0, 0, 0, 0, 92, 0, 0, 0, 0, 0, 0, 0, 0, 0, 0, 0, 0, 0, 0, 0, 0, 0, 0, 0, 0, 0, 0, 0, 0, 0, 0, 0, 0, 0, 0, 0, 0, 0, 0, 0, 0, 0, 0, 0, 0, 0, 0, 0, 0, 0, 0, 0, 0, 0, 0, 0, 0, 0, 0, 0, 0, 0, 0, 0, 0, 0, 0, 0, 0, 0, 0, 0, 0, 0, 0, 0, 0, 0, 0, 0, 0, 0, 0, 0, 0, 0, 0, 0, 0, 0, 0, 0, 0, 0, 0, 0, 0, 0, 0, 0, 0, 0, 0, 0, 0, 0, 0, 0, 0, 0, 0, 0, 0, 0, 0, 0, 0, 0, 0, 0, 0, 0, 0, 0, 0, 0, 0, 0, 0, 0, 0, 0, 0, 0, 0, 0, 0, 0, 0, 0, 0, 0, 0, 0, 0, 0, 0, 0, 0, 0, 0, 0, 0, 0, 0, 0, 0, 0, 0, 0, 0, 0, 0, 0, 0, 0, 0, 0]
def tb_1 : List Int := [240, 240, 240, 240, 240, 240, 240, 240, 240, 240, 240, 240, 240, 240, 240, 240, 240, 240, 240, 240, 240, 240, 240, 240, 240, 240, 240, 240, 240, 240, 240, 240, 240, 240, 240, 240, 240, 240, 240, 240, 240, 240, 240, 240, 240, 240, 240, 240, 240, 240, 240, 240, 240, 240, 240, 240, 240, 240, 240, 240, 240, 240, 240, 240, 240, 240, 240, 240, 240, 240, 240, 240, 240, 240, 240, 240, 240, 240, 240, 240, 240, 240, 240, 240, 240, 240, 240, 240, 240, 240, 240, 240, 240, 240, 240, 240, 240, 240, 240, 240, 240, 240, 240, 240, 240, 240, 240, 240, 240, 240, 240, 240, 240, 240, 240, 240, 240, 240, 240, 240, 240, 240, 240, 240, 240, 240, 240, 240, 241, 241, 241, 241, 241, 241, 241, 241, 241, 241, 241, 241, 241, 241, 241, 241, 241, 241, 241, 241, 241, 241, 241, 241, 241, 241, 241, 241, 241, 241, 241, 241, 241, 241, 241, 241, 241, 241, 241, 241, 241, 241, 241, 241, 241, 241, 241, 241, 241, 241, 241, 241, 241, 241, 241, 241, 241, 241, 241, 241, 241, 241, 241, 241, 241, 241, 2, 2, 2, 2, 2, 2, 2, 2, 2, 2, 2, 2, 2, 2, 2, 2, 2, 2, 2, 2, 2, 2, 2, 2, 2, 2, 2, 2, 2, 2, 19, 3, 3, 3, 3, 3, 3, 3, 3, 3, 3, 3, 3, 35, 3, 3, 52, 4, 4, 4, 68, 241, 241, 241, 241, 241, 241, 241, 241, 241, 241, 241]
def tb_2 : List Int := [128, 191, 160, 191, 128, 159, 144, 191, 128, 143, 0, 0, 0, 0, 0, 0, 0, 0, 0, 0, 0, 0, 0, 0, 0, 0, 0, 0, 0, 0, 0, 0]
def tb_3 : List Int := [0, 0, 0, 0, 0, 0, 0, 0, 0, 0, 0, 0, 0, 0, 0, 0, 0, 0, 0, 0, 0, 0, 0, 0, 0, 0, 0, 0, 0, 0, 0, 0, 0, 0, 34, 0, 0, 0, 0, 0, 0, 0, 0, 0, 0, 0, 0, 47, 0, 0, 0, 0, 0, 0, 0, 0, 0, 0, 0, 0, 0, 0, 0, 0, 0, 0, 0, 0, 0, 0, 0, 0, 0, 0, 0, 0, 0, 0, 0, 0, 0, 0, 0, 0, 0, 0, 0, 0, 0, 0, 0, 0, 92, 0, 0, 0, 0, 0, 8, 0, 0, 0, 12, 0, 0, 0, 0, 0, 0, 0, 10, 0, 0, 0, 13, 0, 9, 0, 0, 0, 0, 0, 0, 0, 0, 0, 0, 0, 0, 0, 0, 0, 0, 0, 0, 0, 0, 0, 0, 0, 0, 0, 0, 0, 0, 0, 0, 0, 0, 0, 0, 0, 0, 0, 0, 0, 0, 0, 0, 0, 0, 0, 0, 0, 0, 0, 0, 0, 0, 0, 0, 0, 0, 0, 0, 0, 0, 0, 0, 0, 0, 0, 0, 0, 0, 0, 0, 0, 0, 0, 0, 0, 0, 0, 0, 0, 0, 0, 0, 0, 0, 0, 0, 0, 0, 0, 0, 0, 0, 0, 0, 0, 0, 0, 0, 0, 0, 0, 0, 0, 0, 0, 0, 0, 0, 0, 0, 0, 0, 0, 0, 0, 0, 0, 0, 0, 0, 0, 0, 0, 0, 0, 0, 0, 0, 0, 0, 0, 0, 0, 0, 0, 0, 0, 0, 0]
structure api_JNode where
 kind : Int
 key : ByteArray
 text : ByteArray
 kids : Int
 deriving Inhabited, DecidableEq
structure json_parser where
 text : ByteArray
 at_ : Int
 out : List api_JNode
 in_ : Int
 code : Int
 deriving Inhabited, DecidableEq
structure trellisref25_Reader where
 s : ByteArray
 l : List api_JNode
 e : Int
 at_ : Int
 deriving Inhabited, DecidableEq
structure strings_Builder where
 addr : Bool
 buf : List Int
 deriving Inhabited
def unicode_utf8_ValidString (x1 : ByteArray) (r : Bool) : Prop :=
 (x1.size ≤ 9223372036854775807) ∧ r = Lib.validD x1.data.toList
def internal_stringslite_IndexByte (x1 : ByteArray) (x2 : Int) (r : Int) : Prop :=
 r = idxB x1 x2
def strings_IndexByte (x1 : ByteArray) (x2 : Int) (r : Int) : Prop :=
 ∃ r6 : Int, (internal_stringslite_IndexByte x1 x2 r6) ∧
 r = r6
def json_parser_is (x1 : json_parser) (x10 : ByteArray) (r : Bool × json_parser) : Prop :=
 if x1.at_ < (x1.text.size : Int) then
  (0 ≤ x1.at_ ∧ x1.at_ < (x1.text.size : Int)) ∧
  ∃ r16 : Int, (strings_IndexByte x10 (bt x1.text x1.at_) r16) ∧
  r = (decide (r16 ≥ 0), x1)
 else
  r = (false, x1)
def json_parser_take (x1 : json_parser) (x10 : ByteArray) (r : Bool × json_parser) : Prop :=
 ∃ r14 : Bool × json_parser, (json_parser_is x1 x10 r14) ∧
 if r14.1 = true then
  r = (true, (⟨r14.2.text, w64 (r14.2.at_ + 1), r14.2.out, r14.2.in_, r14.2.code⟩ : json_parser))
 else
  r = (false, r14.2)
def json_parser_digits_b1 (x39 : ByteArray) (x40 : Int) (x41 : List api_JNode) (x46 : Int) (x47 : Int) (o1 : Sum (ByteArray × Int × (List api_JNode) × Int × Int) (Bool × json_parser)) : Prop :=
 ∃ r65 : Bool × json_parser, (json_parser_is (⟨x39, x40, x41, x46, x47⟩ : json_parser) (⟨#[48, 49, 50, 51, 52, 53, 54, 55, 56, 57]⟩ : ByteArray) r65) ∧
 if r65.1 = true then
  o1 = .inl (r65.2.text, w64 (r65.2.at_ + 1), r65.2.out, r65.2.in_, r65.2.code)
 else
  o1 = .inr ((true, r65.2))
def json_parser_digits (x1 : json_parser) (r : Bool × json_parser) : Prop :=
 ∃ r13 : Bool × json_parser, (json_parser_take x1 (⟨#[48, 49, 50, 51, 52, 53, 54, 55, 56, 57]⟩ : ByteArray) r13) ∧
 if r13.1 = true then
  Rounds (fun (s : ByteArray × Int × (List api_JNode) × Int × Int) o => json_parser_digits_b1 s.1 s.2.1 s.2.2.1 s.2.2.2.1 s.2.2.2.2 o) (r13.2.text, r13.2.at_, r13.2.out, r13.2.in_, r13.2.code) r
 else
  r = (false, r13.2)
def json_parser_number_j4 (r120 : Bool × json_parser) (x132 : Int) (r : Bool × json_parser) : Prop :=
 ∃ r136 : Bool × json_parser, (json_parser_digits (⟨r120.2.text, x132, r120.2.out, r120.2.in_, r120.2.code⟩ : json_parser) r136) ∧
 r = (r136.1, r136.2)
def json_parser_number_j3 (x94 : ByteArray) (x95 : Int) (x96 : List api_JNode) (x101 : Int) (x102 : Int) (r : Bool × json_parser) : Prop :=
 ∃ r106 : Bool × json_parser, (json_parser_is (⟨x94, x95, x96, x101, x102⟩ : json_parser) (⟨#[101, 69]⟩ : ByteArray) r106) ∧
 if r106.1 = true then
  ∃ r120 : Bool × json_parser, (json_parser_is (⟨r106.2.text, w64 (r106.2.at_ + 1), r106.2.out, r106.2.in_, r106.2.code⟩ : json_parser) (⟨#[43, 45]⟩ : ByteArray) r120) ∧
  if r120.1 = true then
   json_parser_number_j4 r120 (w64 (r120.2.at_ + 1)) r
  else
   json_parser_number_j4 r120 r120.2.at_ r
 else
  r = (true, r106.2)
def json_parser_number_j2 (x55 : ByteArray) (x56 : Int) (x57 : List api_JNode) (x62 : Int) (x63 : Int) (r : Bool × json_parser) : Prop :=
 ∃ r68 : Bool × json_parser, (json_parser_is (⟨x55, x56, x57, x62, x63⟩ : json_parser) (⟨#[46]⟩ : ByteArray) r68) ∧
 if r68.1 = true then
  ∃ r149 : Bool × json_parser, (json_parser_digits (⟨r68.2.text, w64 (r68.2.at_ + 1), r68.2.out, r68.2.in_, r68.2.code⟩ : json_parser) r149) ∧
  if r149.1 = true then
   json_parser_number_j3 r149.2.text r149.2.at_ r149.2.out r149.2.in_ r149.2.code r
  else
   r = (false, r149.2)
 else
  json_parser_number_j3 r68.2.text r68.2.at_ r68.2.out r68.2.in_ r68.2.code r
def json_parser_number_j1 (r13 : Bool × json_parser) (x25 : Int) (r : Bool × json_parser) : Prop :=
 ∃ r29 : Bool × json_parser, (json_parser_is (⟨r13.2.text, x25, r13.2.out, r13.2.in_, r13.2.code⟩ : json_parser) (⟨#[48]⟩ : ByteArray) r29) ∧
 if r29.1 = true then
  json_parser_number_j2 r29.2.text (w64 (r29.2.at_ + 1)) r29.2.out r29.2.in_ r29.2.code r
 else
  ∃ r163 : Bool × json_parser, (json_parser_digits r29.2 r163) ∧
  if r163.1 = true then
   json_parser_number_j2 r163.2.text r163.2.at_ r163.2.out r163.2.in_ r163.2.code r
  else
   r = (false, r163.2)
def json_parser_number (x1 : json_parser) (r : Bool × json_parser) : Prop :=
 ∃ r13 : Bool × json_parser, (json_parser_is x1 (⟨#[45]⟩ : ByteArray) r13) ∧
 if r13.1 = true then
  json_parser_number_j1 r13 (w64 (r13.2.at_ + 1)) r
 else
  json_parser_number_j1 r13 r13.2.at_ r
def json_sound_j3 (x1 : api_JNode) (x101 : Bool) (r : Bool) : Prop :=
 if x101 = true then
  if x1.kids = 0 then
   r = (seq x1.text (⟨#[]⟩ : ByteArray))
  else
   r = false
 else
  r = false
def json_sound_j2 (x1 : api_JNode) (x18 : Bool) (r : Bool) : Prop :=
 if x18 = true then
  r = (seq x1.text (⟨#[]⟩ : ByteArray))
 else
  if x1.kind = 4 then
   if x1.kids = 0 then
    if x1.text = (⟨#[]⟩ : ByteArray) then
     r = false
    else
     ∃ r34 : Bool × json_parser, (json_parser_number (⟨x1.text, 0, ([] : List api_JNode), 0, 0⟩ : json_parser) r34) ∧
     if r34.1 = true then
      r = (r34.2.at_ == (x1.text.size : Int))
     else
      r = false
   else
    r = false
  else
   if x1.kind = 5 then
    if x1.kids = 0 then
     ∃ r93 : Bool, (unicode_utf8_ValidString x1.text r93) ∧
     r = r93
    else
     r = false
   else
    if x1.kind = 1 then
     json_sound_j3 x1 (x1.kind == 1) r
    else
     if x1.kind = 2 then
      json_sound_j3 x1 (x1.kind == 2) r
     else
      json_sound_j3 x1 (x1.kind == 3) r
def json_sound_j1 (x1 : api_JNode) (x14 : Bool) (r : Bool) : Prop :=
 if x14 = true then
  r = false
 else
  if x1.kind = 6 then
   json_sound_j2 x1 (x1.kind == 6) r
  else
   json_sound_j2 x1 (x1.kind == 7) r
def json_sound (x1 : api_JNode) (r : Bool) : Prop :=
 if x1.kids < 0 then
  json_sound_j1 x1 true r
 else
  ∃ r109 : Bool, (unicode_utf8_ValidString x1.key r109) ∧
  json_sound_j1 x1 (!r109) r
def json_subtree_b3 (x1 : List api_JNode) (x6 : Int) (rc_json_subtree : (List api_JNode) → Int → Int → Bool → Int → Prop) (x7 : Int) (x53 : Int) (x54 : Int) (x55 : ByteArray → Int) (o1 : Sum (Int × Int × (ByteArray → Int)) Int) : Prop :=
 if x54 < (ix x1 x6).kids then
  ∃ r75 : Int, (rc_json_subtree x1 x53 (w64 (x7 + 1)) (((ix x1 x6).kind) == 7) r75) ∧
  if r75 < 0 then
   o1 = .inr (-1)
  else
   if (ix x1 x6).kind = 7 then
    (0 ≤ x53 ∧ x53 < (x1.length : Int)) ∧
    if x55 ((ix x1 x53).key) > 0 then
     o1 = .inr (-1)
    else
     o1 = .inl (r75, w64 (x54 + 1), (updM x55 ((ix x1 x53).key) 1))
   else
    o1 = .inl (r75, w64 (x54 + 1), x55)
 else
  o1 = .inr (x53)
def json_subtree_j2 (x6 : Int) (x7 : Int) (x1 : List api_JNode) (rc_json_subtree : (List api_JNode) → Int → Int → Bool → Int → Prop) (x32 : Bool) (r : Int) : Prop :=
 if x32 = true then
  r = w64 (x6 + 1)
 else
  if x7 ≥ 64 then
   r = -1
  else
   Rounds (fun (s : Int × Int × (ByteArray → Int)) o => json_subtree_b3 x1 x6 rc_json_subtree x7 s.1 s.2.1 s.2.2 o) (w64 (x6 + 1), 0, (fun _ => 0)) r
def json_subtree_j1 (x6 : Int) (x1 : List api_JNode) (x7 : Int) (rc_json_subtree : (List api_JNode) → Int → Int → Bool → Int → Prop) (x24 : Bool) (r : Int) : Prop :=
 if x24 = true then
  r = -1
 else
  (0 ≤ x6 ∧ x6 < (x1.length : Int)) ∧
  if (ix x1 x6).kind = 6 then
   json_subtree_j2 x6 x7 x1 rc_json_subtree false r
  else
   json_subtree_j2 x6 x7 x1 rc_json_subtree (((ix x1 x6).kind) != 7) r
def json_subtree_body (rc_json_subtree : (List api_JNode) → Int → Int → Bool → Int → Prop) (x1 : List api_JNode) (x6 : Int) (x7 : Int) (x8 : Bool) (r : Int) : Prop :=
 if x6 ≥ (x1.length : Int) then
  json_subtree_j1 x6 x1 x7 rc_json_subtree true r
 else
  (0 ≤ x6 ∧ x6 < (x1.length : Int)) ∧
  ∃ r93 : Bool, (json_sound (ix x1 x6) r93) ∧
  if r93 = true then
   if x8 = true then
    json_subtree_j1 x6 x1 x7 rc_json_subtree false r
   else
    json_subtree_j1 x6 x1 x7 rc_json_subtree (!(seq ((ix x1 x6).key) (⟨#[]⟩ : ByteArray))) r
  else
   json_subtree_j1 x6 x1 x7 rc_json_subtree true r
def json_subtree_n : Nat → (List api_JNode) → Int → Int → Bool → Int → Prop
 | 0 => fun _ _ _ _ _ => False
 | n + 1 => json_subtree_body (json_subtree_n n)
def json_subtree (x1 : List api_JNode) (x6 : Int) (x7 : Int) (x8 : Bool) (r : Int) : Prop := ∃ n, json_subtree_n n x1 x6 x7 x8 r
def json_Shaped (x1 : List api_JNode) (r : Bool) : Prop :=
 if (x1.length : Int) > 0 then
  ∃ r10 : Int, (json_subtree x1 0 0 false r10) ∧
  r = (r10 == (x1.length : Int))
 else
  r = false
def json_size_b1 (x6 : Int) (x1 : List api_JNode) (x13 : Int) (x14 : Int) (o1 : Sum (Int × Int) Int) : Prop :=
 if x14 > 0 then
  (0 ≤ w64 (x6 + x13) ∧ w64 (x6 + x13) < (x1.length : Int)) ∧
  o1 = .inl (w64 (x13 + 1), w64 ((w64 (x14 + ((ix x1 (w64 (x6 + x13))).kids))) - 1))
 else
  o1 = .inr (x13)
def json_size (x1 : List api_JNode) (x6 : Int) (r : Int) : Prop :=
 (0 ≤ x6 ∧ x6 < (x1.length : Int)) ∧
 Rounds (fun (s : Int × Int) o => json_size_b1 x6 x1 s.1 s.2 o) (1, (ix x1 x6).kids) r
def json_Member_b2 (x1 : List api_JNode) (x6 : Int) (x7 : ByteArray) (x39 : Int) (x40 : Int) (o1 : Sum (Int × Int) Int) : Prop :=
 if x40 < (ix x1 x6).kids then
  (0 ≤ x39 ∧ x39 < (x1.length : Int)) ∧
  if (ix x1 x39).key = x7 then
   o1 = .inr (x39)
  else
   ∃ r60 : Int, (json_size x1 x39 r60) ∧
   o1 = .inl (w64 (x39 + r60), w64 (x40 + 1))
 else
  o1 = .inr (-1)
def json_Member_j1 (x6 : Int) (x1 : List api_JNode) (x7 : ByteArray) (x22 : Bool) (r : Int) : Prop :=
 if x22 = true then
  r = -1
 else
  (0 ≤ x6 ∧ x6 < (x1.length : Int)) ∧
  Rounds (fun (s : Int × Int) o => json_Member_b2 x1 x6 x7 s.1 s.2 o) (w64 (x6 + 1), 0) r
def json_Member (x1 : List api_JNode) (x6 : Int) (x7 : ByteArray) (r : Int) : Prop :=
 if x6 < 0 then
  json_Member_j1 x6 x1 x7 true r
 else
  if x6 ≥ (x1.length : Int) then
   json_Member_j1 x6 x1 x7 true r
  else
   (0 ≤ x6 ∧ x6 < (x1.length : Int)) ∧
   if (ix x1 x6).kind = 7 then
    ∃ r73 : Bool, (json_Shaped x1 r73) ∧
    json_Member_j1 x6 x1 x7 (!r73) r
   else
    json_Member_j1 x6 x1 x7 true r
def internal_stringslite_HasPrefix (x1 : ByteArray) (x2 : ByteArray) (r : Bool) : Prop :=
 if (x1.size : Int) ≥ (x2.size : Int) then
  (0 ≤ (0 : Int) ∧ (0 : Int) ≤ (x2.size : Int) ∧ (x2.size : Int) ≤ (x1.size : Int)) ∧
  r = (seq (x1.extract (0 : Int).toNat ((x2.size : Int) : Int).toNat) x2)
 else
  r = false
def internal_stringslite_CutPrefix (x1 : ByteArray) (x2 : ByteArray) (r : ByteArray × Bool) : Prop :=
 ∃ r6 : Bool, (internal_stringslite_HasPrefix x1 x2 r6) ∧
 if r6 = true then
  (0 ≤ (x2.size : Int) ∧ (x2.size : Int) ≤ (x1.size : Int) ∧ (x1.size : Int) ≤ (x1.size : Int)) ∧
  r = (x1.extract ((x2.size : Int) : Int).toNat ((x1.size : Int) : Int).toNat, true)
 else
  r = (x1, false)
def strings_CutPrefix (x1 : ByteArray) (x2 : ByteArray) (r : ByteArray × Bool) : Prop :=
 ∃ r6 : ByteArray × Bool, (internal_stringslite_CutPrefix x1 x2 r6) ∧
 r = (r6.1, r6.2)
def json_Int_j3 (x46 : Int) (r28 : ByteArray × Bool) (x45 : Int) (x63 : Bool) (o1 : Sum (Int × Int) (Int × Bool)) : Prop :=
 if x63 = true then
  o1 = .inr ((0, false))
 else
  (0 ≤ x46 ∧ x46 < (r28.1.size : Int)) ∧
  if x45 > IntKind.u64.wrap (Int.tdiv (IntKind.u64.wrap (9223372036854775808 - (IntKind.u64.wrap (IntKind.u8.wrap ((bt r28.1 x46) - 48))))) 10) then
   o1 = .inr ((0, false))
  else
   o1 = .inl (IntKind.u64.wrap ((IntKind.u64.wrap (10 * x45)) + (IntKind.u64.wrap (IntKind.u8.wrap ((bt r28.1 x46) - 48)))), w64 (x46 + 1))
def json_Int_b2 (r28 : ByteArray × Bool) (x45 : Int) (x46 : Int) (o1 : Sum (Int × Int) (Int × Bool)) : Prop :=
 if x46 < (r28.1.size : Int) then
  (0 ≤ x46 ∧ x46 < (r28.1.size : Int)) ∧
  if bt r28.1 x46 < 48 then
   json_Int_j3 x46 r28 x45 true o1
  else
   json_Int_j3 x46 r28 x45 (decide (bt r28.1 x46 > 57)) o1
 else
  if r28.2 = true then
   o1 = .inr ((w64 (IntKind.u64.wrap (0 - x45)), true))
  else
   if x45 > 9223372036854775807 then
    o1 = .inr ((0, false))
   else
    o1 = .inr ((w64 (x45), true))
def json_Int_j1 (x6 : Int) (x1 : List api_JNode) (x21 : Bool) (r : Int × Bool) : Prop :=
 if x21 = true then
  r = (0, false)
 else
  (0 ≤ x6 ∧ x6 < (x1.length : Int)) ∧
  ∃ r28 : ByteArray × Bool, (strings_CutPrefix ((ix x1 x6).text) (⟨#[45]⟩ : ByteArray) r28) ∧
  Rounds (fun (s : Int × Int) o => json_Int_b2 r28 s.1 s.2 o) (0, 0) r
def json_Int (x1 : List api_JNode) (x6 : Int) (r : Int × Bool) : Prop :=
 if x6 < 0 then
  json_Int_j1 x6 x1 true r
 else
  if x6 ≥ (x1.length : Int) then
   json_Int_j1 x6 x1 true r
  else
   (0 ≤ x6 ∧ x6 < (x1.length : Int)) ∧
   if (ix x1 x6).kind = 4 then
    ∃ r79 : Bool, (json_Shaped x1 r79) ∧
    json_Int_j1 x6 x1 (!r79) r
   else
    json_Int_j1 x6 x1 true r
def trellislaw25_same_b1 (x1 : List api_JNode) (x6 : List api_JNode) (x23 : Int) (o1 : Sum Int Bool) : Prop :=
 if x23 < (x1.length : Int) then
  (0 ≤ x23 ∧ x23 < (x1.length : Int)) ∧
  (0 ≤ x23 ∧ x23 < (x6.length : Int)) ∧
  if ix x1 x23 = ix x6 x23 then
   o1 = .inl (w64 (x23 + 1))
  else
   o1 = .inr (false)
 else
  o1 = .inr (true)
def trellislaw25_same (x1 : List api_JNode) (x6 : List api_JNode) (r : Bool) : Prop :=
 if (x1.length : Int) = (x6.length : Int) then
  Rounds (fun (s : Int) o => trellislaw25_same_b1 x1 x6 s o) 0 r
 else
  r = false
def strings_Builder_copyCheck (x1 : strings_Builder) (r : strings_Builder) : Prop :=
 if x1.addr = true then
  r = x1
 else
  r = (⟨true, x1.buf⟩ : strings_Builder)
def strings_Builder_WriteByte (x1 : strings_Builder) (x9 : Int) (r : strings_Builder) : Prop :=
 ∃ r13 : strings_Builder, (strings_Builder_copyCheck x1 r13) ∧
 ∃ x24 : List Int, (x24 = x1.buf ++ ([x9] : List Int)) ∧
 (x24.length * 1 ≤ 211106232532992) ∧
 r = (⟨r13.addr, x24⟩ : strings_Builder)
def strings_Builder_WriteString (x1 : strings_Builder) (x9 : ByteArray) (r : Int × strings_Builder) : Prop :=
 ∃ r13 : strings_Builder, (strings_Builder_copyCheck x1 r13) ∧
 ∃ x21 : List Int, (x21 = x1.buf ++ bsOf x9) ∧
 (x21.length * 1 ≤ 211106232532992) ∧
 r = ((x9.size : Int), (⟨r13.addr, x21⟩ : strings_Builder))
def json_quote_b1 (x9 : ByteArray) (x122 : Int) (x123 : Bool) (x124 : List Int) (o1 : Sum (Int × Bool × (List Int)) strings_Builder) : Prop :=
 if x122 < (x9.size : Int) then
  (0 ≤ x122 ∧ x122 < (x9.size : Int)) ∧
  (0 ≤ bt x9 x122 ∧ bt x9 x122 < 256) ∧
  if ix tb_0 (bt x9 x122) = 0 then
   if bt x9 x122 < 32 then
    ∃ r235 : Int × strings_Builder, (strings_Builder_WriteString (⟨x123, x124⟩ : strings_Builder) (⟨#[92, 117, 48, 48]⟩ : ByteArray) r235) ∧
    (0 ≤ IntKind.u8.wrap (Int.tdiv (bt x9 x122) 16) ∧ IntKind.u8.wrap (Int.tdiv (bt x9 x122) 16) < ((⟨#[48, 49, 50, 51, 52, 53, 54, 55, 56, 57, 97, 98, 99, 100, 101, 102]⟩ : ByteArray).size : Int)) ∧
    ∃ r249 : strings_Builder, (strings_Builder_WriteByte r235.2 (bt (⟨#[48, 49, 50, 51, 52, 53, 54, 55, 56, 57, 97, 98, 99, 100, 101, 102]⟩ : ByteArray) (IntKind.u8.wrap (Int.tdiv (bt x9 x122) 16))) r249) ∧
    (0 ≤ Int.tmod (bt x9 x122) 16 ∧ Int.tmod (bt x9 x122) 16 < ((⟨#[48, 49, 50, 51, 52, 53, 54, 55, 56, 57, 97, 98, 99, 100, 101, 102]⟩ : ByteArray).size : Int)) ∧
    ∃ r263 : strings_Builder, (strings_Builder_WriteByte r249 (bt (⟨#[48, 49, 50, 51, 52, 53, 54, 55, 56, 57, 97, 98, 99, 100, 101, 102]⟩ : ByteArray) (Int.tmod (bt x9 x122) 16)) r263) ∧
    o1 = .inl (w64 (x122 + 1), r263.addr, r263.buf)
   else
    ∃ r276 : strings_Builder, (strings_Builder_WriteByte (⟨x123, x124⟩ : strings_Builder) (bt x9 x122) r276) ∧
    o1 = .inl (w64 (x122 + 1), r276.addr, r276.buf)
  else
   ∃ r289 : strings_Builder, (strings_Builder_WriteByte (⟨x123, x124⟩ : strings_Builder) 92 r289) ∧
   ∃ r302 : strings_Builder, (strings_Builder_WriteByte r289 (ix tb_0 (bt x9 x122)) r302) ∧
   o1 = .inl (w64 (x122 + 1), r302.addr, r302.buf)
 else
  ∃ r315 : strings_Builder, (strings_Builder_WriteByte (⟨x123, x124⟩ : strings_Builder) 34 r315) ∧
  o1 = .inr (r315)
def json_quote (x1 : strings_Builder) (x9 : ByteArray) (r : strings_Builder) : Prop :=
 ∃ r13 : strings_Builder, (strings_Builder_WriteByte x1 34 r13) ∧
 Rounds (fun (s : Int × Bool × (List Int)) o => json_quote_b1 x9 s.1 s.2.1 s.2.2 o) (0, r13.addr, r13.buf) r
def json_Print_1_b3 (x2 : List api_JNode) (x9 : Int) (rc_json_Print_1 : Bool → (List api_JNode) → Int → strings_Builder → ((List api_JNode) × Int × strings_Builder) → Prop) (x132 : ByteArray) (x182 : Int) (x183 : Bool) (x184 : List Int) (x189 : List api_JNode) (x196 : Int) (o1 : Sum (Int × Bool × (List Int) × (List api_JNode) × Int) ((List api_JNode) × Int × strings_Builder)) : Prop :=
 if x182 < (ix x2 x9).kids then
  if x182 > 0 then
   ∃ r269 : strings_Builder, (strings_Builder_WriteByte (⟨x183, x184⟩ : strings_Builder) 44 r269) ∧
   ∃ r282 : (List api_JNode) × Int × strings_Builder, (rc_json_Print_1 (((ix x2 x9).kind) == 7) x189 x196 r269 r282) ∧
   o1 = .inl (w64 (x182 + 1), r282.2.2.addr, r282.2.2.buf, r282.1, r282.2.1)
  else
   ∃ r301 : (List api_JNode) × Int × strings_Builder, (rc_json_Print_1 (((ix x2 x9).kind) == 7) x189 x196 (⟨x183, x184⟩ : strings_Builder) r301) ∧
   o1 = .inl (w64 (x182 + 1), r301.2.2.addr, r301.2.2.buf, r301.1, r301.2.1)
 else
  (0 ≤ (1 : Int) ∧ (1 : Int) < (x132.size : Int)) ∧
  ∃ r321 : strings_Builder, (strings_Builder_WriteByte (⟨x183, x184⟩ : strings_Builder) (bt x132 1) r321) ∧
  o1 = .inr ((x189, x196, r321))
def json_Print_1_j2 (x54 : Bool) (x55 : List Int) (x2 : List api_JNode) (x9 : Int) (rc_json_Print_1 : Bool → (List api_JNode) → Int → strings_Builder → ((List api_JNode) × Int × strings_Builder) → Prop) (x132 : ByteArray) (r : (List api_JNode) × Int × strings_Builder) : Prop :=
 (0 ≤ (0 : Int) ∧ (0 : Int) < (x132.size : Int)) ∧
 ∃ r137 : strings_Builder, (strings_Builder_WriteByte (⟨x54, x55⟩ : strings_Builder) (bt x132 0) r137) ∧
 Rounds (fun (s : Int × Bool × (List Int) × (List api_JNode) × Int) o => json_Print_1_b3 x2 x9 rc_json_Print_1 x132 s.1 s.2.1 s.2.2.1 s.2.2.2.1 s.2.2.2.2 o) (0, r137.addr, r137.buf, x2, w64 (x9 + 1)) r
def json_Print_1_j1 (x2 : List api_JNode) (x9 : Int) (rc_json_Print_1 : Bool → (List api_JNode) → Int → strings_Builder → ((List api_JNode) × Int × strings_Builder) → Prop) (x54 : Bool) (x55 : List Int) (r : (List api_JNode) × Int × strings_Builder) : Prop :=
 if (ix x2 x9).kind = 1 then
  ∃ r64 : Int × strings_Builder, (strings_Builder_WriteString (⟨x54, x55⟩ : strings_Builder) (⟨#[110, 117, 108, 108]⟩ : ByteArray) r64) ∧
  r = (x2, w64 (x9 + 1), r64.2)
 else
  if (ix x2 x9).kind = 2 then
   ∃ r78 : Int × strings_Builder, (strings_Builder_WriteString (⟨x54, x55⟩ : strings_Builder) (⟨#[102, 97, 108, 115, 101]⟩ : ByteArray) r78) ∧
   r = (x2, w64 (x9 + 1), r78.2)
  else
   if (ix x2 x9).kind = 3 then
    ∃ r92 : Int × strings_Builder, (strings_Builder_WriteString (⟨x54, x55⟩ : strings_Builder) (⟨#[116, 114, 117, 101]⟩ : ByteArray) r92) ∧
    r = (x2, w64 (x9 + 1), r92.2)
   else
    if (ix x2 x9).kind = 4 then
     ∃ r106 : Int × strings_Builder, (strings_Builder_WriteString (⟨x54, x55⟩ : strings_Builder) ((ix x2 x9).text) r106) ∧
     r = (x2, w64 (x9 + 1), r106.2)
    else
     if (ix x2 x9).kind = 5 then
      ∃ r120 : strings_Builder, (json_quote (⟨x54, x55⟩ : strings_Builder) ((ix x2 x9).text) r120) ∧
      r = (x2, w64 (x9 + 1), r120)
     else
      if (ix x2 x9).kind = 7 then
       json_Print_1_j2 x54 x55 x2 x9 rc_json_Print_1 (⟨#[123, 125]⟩ : ByteArray) r
      else
       json_Print_1_j2 x54 x55 x2 x9 rc_json_Print_1 (⟨#[91, 93]⟩ : ByteArray) r
def json_Print_1_body (rc_json_Print_1 : Bool → (List api_JNode) → Int → strings_Builder → ((List api_JNode) × Int × strings_Builder) → Prop) (x1 : Bool) (x2 : List api_JNode) (x9 : Int) (x12 : strings_Builder) (r : (List api_JNode) × Int × strings_Builder) : Prop :=
 (0 ≤ x9 ∧ x9 < (x2.length : Int)) ∧
 if x1 = true then
  ∃ r334 : strings_Builder, (json_quote x12 ((ix x2 x9).key) r334) ∧
  ∃ r347 : strings_Builder, (strings_Builder_WriteByte r334 58 r347) ∧
  json_Print_1_j1 x2 x9 rc_json_Print_1 r347.addr r347.buf r
 else
  json_Print_1_j1 x2 x9 rc_json_Print_1 x12.addr x12.buf r
def json_Print_1_n : Nat → Bool → (List api_JNode) → Int → strings_Builder → ((List api_JNode) × Int × strings_Builder) → Prop
 | 0 => fun _ _ _ _ _ => False
 | n + 1 => json_Print_1_body (json_Print_1_n n)
def json_Print_1 (x1 : Bool) (x2 : List api_JNode) (x9 : Int) (x12 : strings_Builder) (r : (List api_JNode) × Int × strings_Builder) : Prop := ∃ n, json_Print_1_n n x1 x2 x9 x12 r
def strings_Builder_String (x1 : strings_Builder) (r : ByteArray) : Prop :=
 r = ofBs x1.buf
def json_Print (x1 : List api_JNode) (r : ByteArray × Int) : Prop :=
 ∃ r11 : Bool, (json_Shaped x1 r11) ∧
 if r11 = true then
  ∃ r27 : (List api_JNode) × Int × strings_Builder, (json_Print_1 false x1 0 (⟨false, ([] : List Int)⟩ : strings_Builder) r27) ∧
  ∃ r46 : ByteArray, (strings_Builder_String r27.2.2 r46) ∧
  r = (r46, 0)
 else
  r = ((⟨#[]⟩ : ByteArray), 43)
def json_parser_blanks_b1 (x25 : ByteArray) (x26 : Int) (x27 : List api_JNode) (x32 : Int) (x33 : Int) (o1 : Sum (ByteArray × Int × (List api_JNode) × Int × Int) json_parser) : Prop :=
 ∃ r51 : Bool × json_parser, (json_parser_is (⟨x25, x26, x27, x32, x33⟩ : json_parser) (⟨#[32, 9, 10, 13]⟩ : ByteArray) r51) ∧
 if r51.1 = true then
  o1 = .inl (r51.2.text, w64 (r51.2.at_ + 1), r51.2.out, r51.2.in_, r51.2.code)
 else
  o1 = .inr (r51.2)
def json_parser_blanks (x1 : json_parser) (r : json_parser) : Prop :=
 Rounds (fun (s : ByteArray × Int × (List api_JNode) × Int × Int) o => json_parser_blanks_b1 s.1 s.2.1 s.2.2.1 s.2.2.2.1 s.2.2.2.2 o) (x1.text, x1.at_, x1.out, x1.in_, x1.code) r
def json_parser_word_b1 (x10 : ByteArray) (x28 : Int) (x29 : ByteArray) (x30 : Int) (x31 : List api_JNode) (x36 : Int) (x37 : Int) (o1 : Sum (Int × ByteArray × Int × (List api_JNode) × Int × Int) (Bool × json_parser)) : Prop :=
 if x28 < (x10.size : Int) then
  (0 ≤ x28 ∧ x28 ≤ w64 (x28 + 1) ∧ w64 (x28 + 1) ≤ (x10.size : Int)) ∧
  ∃ r59 : Bool × json_parser, (json_parser_take (⟨x29, x30, x31, x36, x37⟩ : json_parser) (x10.extract (x28 : Int).toNat (w64 (x28 + 1) : Int).toNat) r59) ∧
  if r59.1 = true then
   o1 = .inl (w64 (x28 + 1), r59.2.text, r59.2.at_, r59.2.out, r59.2.in_, r59.2.code)
  else
   o1 = .inr ((false, r59.2))
 else
  o1 = .inr ((true, (⟨x29, x30, x31, x36, x37⟩ : json_parser)))
def json_parser_word (x1 : json_parser) (x10 : ByteArray) (r : Bool × json_parser) : Prop :=
 Rounds (fun (s : Int × ByteArray × Int × (List api_JNode) × Int × Int) o => json_parser_word_b1 x10 s.1 s.2.1 s.2.2.1 s.2.2.2.1 s.2.2.2.2.1 s.2.2.2.2.2 o) (0, x1.text, x1.at_, x1.out, x1.in_, x1.code) r
def json_parser_hex (x1 : json_parser) (x10 : ByteArray) (r : Int × Bool × json_parser) : Prop :=
 ∃ r14 : Bool × json_parser, (json_parser_take x1 x10 r14) ∧
 if r14.1 = true then
  (0 ≤ w64 (r14.2.at_ - 1) ∧ w64 (r14.2.at_ - 1) < (r14.2.text.size : Int)) ∧
  if bt r14.2.text (w64 (r14.2.at_ - 1)) ≤ 57 then
   r = (IntKind.i32.wrap (IntKind.u8.wrap ((bt r14.2.text (w64 (r14.2.at_ - 1))) - 48)), true, r14.2)
  else
   r = (IntKind.i32.wrap ((IntKind.i32.wrap ((IntKind.i32.wrap (bits .or .u8 (bt r14.2.text (w64 (r14.2.at_ - 1))) 32)) - 97)) + 10), true, r14.2)
 else
  r = (0, false, r14.2)
def json_parser_four_b2 (x27 : ByteArray) (x28 : ByteArray) (x54 : Int) (x55 : Int) (x56 : ByteArray) (x57 : Int) (x58 : List api_JNode) (x63 : Int) (x64 : Int) (o1 : Sum (Int × Int × ByteArray × Int × (List api_JNode) × Int × Int) (Int × Bool × json_parser)) : Prop :=
 if x55 < 4 then
  (0 ≤ x55 ∧ x55 < (4 : Int)) ∧
  ∃ r86 : Int × Bool × json_parser, (json_parser_hex (⟨x56, x57, x58, x63, x64⟩ : json_parser) ((arrL ([x27, x28, (⟨#[48, 49, 50, 51, 52, 53, 54, 55, 56, 57, 97, 98, 99, 100, 101, 102, 65, 66, 67, 68, 69, 70]⟩ : ByteArray), (⟨#[48, 49, 50, 51, 52, 53, 54, 55, 56, 57, 97, 98, 99, 100, 101, 102, 65, 66, 67, 68, 69, 70]⟩ : ByteArray)] : List ByteArray)) x55) r86) ∧
  if r86.2.1 = true then
   o1 = .inl (IntKind.i32.wrap ((IntKind.i32.wrap (16 * x54)) + r86.1), w64 (x55 + 1), r86.2.2.text, r86.2.2.at_, r86.2.2.out, r86.2.2.in_, r86.2.2.code)
  else
   o1 = .inr ((0, false, r86.2.2))
 else
  o1 = .inr ((x54, true, (⟨x56, x57, x58, x63, x64⟩ : json_parser)))
def json_parser_four_j1 (x27 : ByteArray) (x28 : ByteArray) (x29 : ByteArray) (x30 : Int) (x31 : List api_JNode) (x36 : Int) (x37 : Int) (r : Int × Bool × json_parser) : Prop :=
 Rounds (fun (s : Int × Int × ByteArray × Int × (List api_JNode) × Int × Int) o => json_parser_four_b2 x27 x28 s.1 s.2.1 s.2.2.1 s.2.2.2.1 s.2.2.2.2.1 s.2.2.2.2.2.1 s.2.2.2.2.2.2 o) (0, 0, x29, x30, x31, x36, x37) r
def json_parser_four (x1 : json_parser) (x10 : Bool) (r : Int × Bool × json_parser) : Prop :=
 if x10 = true then
  json_parser_four_j1 (⟨#[100, 68]⟩ : ByteArray) (⟨#[99, 100, 101, 102, 67, 68, 69, 70]⟩ : ByteArray) x1.text x1.at_ x1.out x1.in_ x1.code r
 else
  ∃ r100 : Bool × json_parser, (json_parser_is x1 (⟨#[100, 68]⟩ : ByteArray) r100) ∧
  if r100.1 = true then
   json_parser_four_j1 (⟨#[48, 49, 50, 51, 52, 53, 54, 55, 56, 57, 97, 98, 99, 100, 101, 102, 65, 66, 67, 68, 69, 70]⟩ : ByteArray) (⟨#[48, 49, 50, 51, 52, 53, 54, 55, 56, 57, 97, 98, 65, 66]⟩ : ByteArray) r100.2.text r100.2.at_ r100.2.out r100.2.in_ r100.2.code r
  else
   json_parser_four_j1 (⟨#[48, 49, 50, 51, 52, 53, 54, 55, 56, 57, 97, 98, 99, 100, 101, 102, 65, 66, 67, 68, 69, 70]⟩ : ByteArray) (⟨#[48, 49, 50, 51, 52, 53, 54, 55, 56, 57, 97, 98, 99, 100, 101, 102, 65, 66, 67, 68, 69, 70]⟩ : ByteArray) r100.2.text r100.2.at_ r100.2.out r100.2.in_ r100.2.code r
def unicode_utf8_appendRuneNonASCII_j2 (x1 : List Int) (x8 : Int) (x35 : Bool) (r : List Int) : Prop :=
 if x35 = true then
  ∃ x43 : List Int, (x43 = x1 ++ ([bits .or .u8 240 (IntKind.u8.wrap (shrV .i32 x8 18)), bits .or .u8 128 (bits .and .u8 (IntKind.u8.wrap (shrV .i32 x8 12)) 63), bits .or .u8 128 (bits .and .u8 (IntKind.u8.wrap (shrV .i32 x8 6)) 63), bits .or .u8 128 (bits .and .u8 (IntKind.u8.wrap (x8)) 63)] : List Int)) ∧
  (x43.length * 1 ≤ 211106232532992) ∧
  r = x43
 else
  ∃ x52 : List Int, (x52 = x1 ++ ([239, 191, 189] : List Int)) ∧
  (x52.length * 1 ≤ 211106232532992) ∧
  r = x52
def unicode_utf8_appendRuneNonASCII_j1 (x1 : List Int) (x8 : Int) (x22 : Bool) (r : List Int) : Prop :=
 if x22 = true then
  ∃ x30 : List Int, (x30 = x1 ++ ([bits .or .u8 224 (IntKind.u8.wrap (shrV .i32 x8 12)), bits .or .u8 128 (bits .and .u8 (IntKind.u8.wrap (shrV .i32 x8 6)) 63), bits .or .u8 128 (bits .and .u8 (IntKind.u8.wrap (x8)) 63)] : List Int)) ∧
  (x30.length * 1 ≤ 211106232532992) ∧
  r = x30
 else
  if IntKind.u32.wrap (x8) > 65535 then
   unicode_utf8_appendRuneNonASCII_j2 x1 x8 (decide (IntKind.u32.wrap (x8) ≤ 1114111)) r
  else
   unicode_utf8_appendRuneNonASCII_j2 x1 x8 false r
def unicode_utf8_appendRuneNonASCII (x1 : List Int) (x8 : Int) (r : List Int) : Prop :=
 if IntKind.u32.wrap (x8) ≤ 2047 then
  ∃ x16 : List Int, (x16 = x1 ++ ([bits .or .u8 192 (IntKind.u8.wrap (shrV .i32 x8 6)), bits .or .u8 128 (bits .and .u8 (IntKind.u8.wrap (x8)) 63)] : List Int)) ∧
  (x16.length * 1 ≤ 211106232532992) ∧
  r = x16
 else
  if IntKind.u32.wrap (x8) < 55296 then
   unicode_utf8_appendRuneNonASCII_j1 x1 x8 (decide (IntKind.u32.wrap (x8) < 55296)) r
  else
   if 57343 < IntKind.u32.wrap (x8) then
    unicode_utf8_appendRuneNonASCII_j1 x1 x8 (decide (IntKind.u32.wrap (x8) ≤ 65535)) r
   else
    unicode_utf8_appendRuneNonASCII_j1 x1 x8 false r
def unicode_utf8_AppendRune (x1 : List Int) (x8 : Int) (r : List Int) : Prop :=
 if IntKind.u32.wrap (x8) ≤ 127 then
  ∃ x16 : List Int, (x16 = x1 ++ ([IntKind.u8.wrap (x8)] : List Int)) ∧
  (x16.length * 1 ≤ 211106232532992) ∧
  r = x16
 else
  ∃ r22 : List Int, (unicode_utf8_appendRuneNonASCII x1 x8 r22) ∧
  r = r22
def json_parser_escape_j3 (x10 : List Int) (r65 : Int × Bool × json_parser) (x108 : Bool) (x109 : ByteArray) (x110 : Int) (x111 : List api_JNode) (x116 : Int) (x117 : Int) (r : (List Int) × Bool × json_parser) : Prop :=
 if x108 = true then
  r = (x10, false, (⟨x109, x110, x111, x116, x117⟩ : json_parser))
 else
  ∃ r122 : Int × Bool × json_parser, (json_parser_four (⟨x109, x110, x111, x116, x117⟩ : json_parser) true r122) ∧
  if r122.2.1 = true then
   ∃ r136 : List Int, (unicode_utf8_AppendRune x10 (IntKind.i32.wrap ((IntKind.i32.wrap (65536 + (shlV .i32 (IntKind.i32.wrap (r65.1 - 55296)) 10))) + (IntKind.i32.wrap (r122.1 - 56320)))) r136) ∧
   r = (r136, true, r122.2.2)
  else
   r = (x10, false, r122.2.2)
def json_parser_escape_j2 (r65 : Int × Bool × json_parser) (x10 : List Int) (x78 : Bool) (r : (List Int) × Bool × json_parser) : Prop :=
 if x78 = true then
  ∃ r149 : Bool × json_parser, (json_parser_take r65.2.2 (⟨#[92]⟩ : ByteArray) r149) ∧
  if r149.1 = true then
   ∃ r163 : Bool × json_parser, (json_parser_take r149.2 (⟨#[117]⟩ : ByteArray) r163) ∧
   json_parser_escape_j3 x10 r65 (!r163.1) r163.2.text r163.2.at_ r163.2.out r163.2.in_ r163.2.code r
  else
   json_parser_escape_j3 x10 r65 true r149.2.text r149.2.at_ r149.2.out r149.2.in_ r149.2.code r
 else
  ∃ r176 : List Int, (unicode_utf8_AppendRune x10 r65.1 r176) ∧
  r = (r176, true, r65.2.2)
def json_parser_escape_j1 (x1 : json_parser) (x10 : List Int) (x21 : Bool) (r : (List Int) × Bool × json_parser) : Prop :=
 if x21 = true then
  (0 ≤ w64 ((w64 (x1.at_ + 1)) - 1) ∧ w64 ((w64 (x1.at_ + 1)) - 1) < (x1.text.size : Int)) ∧
  (0 ≤ bt x1.text (w64 ((w64 (x1.at_ + 1)) - 1)) ∧ bt x1.text (w64 ((w64 (x1.at_ + 1)) - 1)) < 256) ∧
  ∃ x31 : List Int, (x31 = x10 ++ ([ix tb_3 (bt x1.text (w64 ((w64 (x1.at_ + 1)) - 1)))] : List Int)) ∧
  (x31.length * 1 ≤ 211106232532992) ∧
  r = (x31, true, (⟨x1.text, w64 (x1.at_ + 1), x1.out, x1.in_, x1.code⟩ : json_parser))
 else
  ∃ r51 : Bool × json_parser, (json_parser_take x1 (⟨#[117]⟩ : ByteArray) r51) ∧
  if r51.1 = true then
   ∃ r65 : Int × Bool × json_parser, (json_parser_four r51.2 false r65) ∧
   if r65.2.1 = true then
    if r65.1 ≥ 55296 then
     json_parser_escape_j2 r65 x10 (decide (r65.1 ≤ 56319)) r
    else
     json_parser_escape_j2 r65 x10 false r
   else
    r = (x10, false, r65.2.2)
  else
   r = (x10, false, r51.2)
def json_parser_escape (x1 : json_parser) (x10 : List Int) (r : (List Int) × Bool × json_parser) : Prop :=
 if x1.at_ < (x1.text.size : Int) then
  (0 ≤ x1.at_ ∧ x1.at_ < (x1.text.size : Int)) ∧
  (0 ≤ bt x1.text x1.at_ ∧ bt x1.text x1.at_ < 256) ∧
  json_parser_escape_j1 x1 x10 ((ix tb_3 (bt x1.text x1.at_)) != 0) r
 else
  json_parser_escape_j1 x1 x10 false r
def json_parser_char_j4 (x10 : List Int) (x1 : json_parser) (x68 : Int) (x65 : Int) (x97 : Bool) (o1 : Sum (Int × Int × Int × Int) ((List Int) × Bool × json_parser)) : Prop :=
 if x97 = true then
  o1 = .inr ((x10, false, (⟨x1.text, x68, x1.out, x1.in_, x1.code⟩ : json_parser)))
 else
  o1 = .inl (w64 (x65 - 1), 128, 191, w64 (x68 + 1))
def json_parser_char_b3 (x1 : json_parser) (x10 : List Int) (x65 : Int) (x66 : Int) (x67 : Int) (x68 : Int) (o1 : Sum (Int × Int × Int × Int) ((List Int) × Bool × json_parser)) : Prop :=
 if x65 > 0 then
  if x68 = (x1.text.size : Int) then
   json_parser_char_j4 x10 x1 x68 x65 true o1
  else
   (0 ≤ x68 ∧ x68 < (x1.text.size : Int)) ∧
   if bt x1.text x68 < x66 then
    json_parser_char_j4 x10 x1 x68 x65 true o1
   else
    json_parser_char_j4 x10 x1 x68 x65 (decide (bt x1.text x68 > x67)) o1
 else
  (0 ≤ x1.at_ ∧ x1.at_ ≤ x68 ∧ x68 ≤ (x1.text.size : Int)) ∧
  ∃ x106 : List Int, (x106 = x10 ++ bsOf (x1.text.extract (x1.at_ : Int).toNat (x68 : Int).toNat)) ∧
  (x106.length * 1 ≤ 211106232532992) ∧
  o1 = .inr ((x106, true, (⟨x1.text, x68, x1.out, x1.in_, x1.code⟩ : json_parser)))
def json_parser_char_j2 (x1 : json_parser) (x10 : List Int) (x33 : Int) (x39 : Int) (x40 : Int) (r : (List Int) × Bool × json_parser) : Prop :=
 Rounds (fun (s : Int × Int × Int × Int) o => json_parser_char_b3 x1 x10 s.1 s.2.1 s.2.2.1 s.2.2.2 o) (x33, x39, x40, w64 (x1.at_ + 1)) r
def json_parser_char_j1 (x1 : json_parser) (x10 : List Int) (x33 : Int) (r : (List Int) × Bool × json_parser) : Prop :=
 if bt x1.text x1.at_ = 224 then
  json_parser_char_j2 x1 x10 x33 160 191 r
 else
  if bt x1.text x1.at_ = 237 then
   json_parser_char_j2 x1 x10 x33 128 159 r
  else
   if bt x1.text x1.at_ = 240 then
    json_parser_char_j2 x1 x10 x33 144 191 r
   else
    if bt x1.text x1.at_ = 244 then
     json_parser_char_j2 x1 x10 x33 128 143 r
    else
     json_parser_char_j2 x1 x10 x33 128 191 r
def json_parser_char_j6 (x1 : json_parser) (x10 : List Int) (x124 : Bool) (r : (List Int) × Bool × json_parser) : Prop :=
 if x124 = true then
  json_parser_char_j1 x1 x10 2 r
 else
  if bt x1.text x1.at_ ≥ 240 then
   if bt x1.text x1.at_ ≤ 244 then
    json_parser_char_j1 x1 x10 3 r
   else
    r = (x10, false, x1)
  else
   r = (x10, false, x1)
def json_parser_char_j5 (x1 : json_parser) (x10 : List Int) (x120 : Bool) (r : (List Int) × Bool × json_parser) : Prop :=
 if x120 = true then
  json_parser_char_j1 x1 x10 1 r
 else
  if bt x1.text x1.at_ ≥ 224 then
   json_parser_char_j6 x1 x10 (decide (bt x1.text x1.at_ ≤ 239)) r
  else
   json_parser_char_j6 x1 x10 false r
def json_parser_char (x1 : json_parser) (x10 : List Int) (r : (List Int) × Bool × json_parser) : Prop :=
 (0 ≤ x1.at_ ∧ x1.at_ < (x1.text.size : Int)) ∧
 if bt x1.text x1.at_ < 32 then
  r = (x10, false, x1)
 else
  if bt x1.text x1.at_ < 128 then
   json_parser_char_j1 x1 x10 0 r
  else
   if bt x1.text x1.at_ ≥ 194 then
    json_parser_char_j5 x1 x10 (decide (bt x1.text x1.at_ ≤ 223)) r
   else
    json_parser_char_j5 x1 x10 false r
def json_parser_str_b1 (x82 : List Int) (x87 : ByteArray) (x88 : Int) (x89 : List api_JNode) (x94 : Int) (x95 : Int) (o1 : Sum ((List Int) × ByteArray × Int × (List api_JNode) × Int × Int) (ByteArray × Bool × json_parser)) : Prop :=
 ∃ r154 : Bool × json_parser, (json_parser_take (⟨x87, x88, x89, x94, x95⟩ : json_parser) (⟨#[34]⟩ : ByteArray) r154) ∧
 if r154.1 = true then
  o1 = .inr ((ofBs x82, true, r154.2))
 else
  if r154.2.at_ = (r154.2.text.size : Int) then
   o1 = .inr (((⟨#[]⟩ : ByteArray), false, r154.2))
  else
   (0 ≤ r154.2.at_ ∧ r154.2.at_ < (r154.2.text.size : Int)) ∧
   if bt r154.2.text r154.2.at_ = 92 then
    ∃ r171 : (List Int) × Bool × json_parser, (json_parser_escape (⟨r154.2.text, w64 (r154.2.at_ + 1), r154.2.out, r154.2.in_, r154.2.code⟩ : json_parser) x82 r171) ∧
    if r171.2.1 = true then
     o1 = .inl (r171.1, r171.2.2.text, r171.2.2.at_, r171.2.2.out, r171.2.2.in_, r171.2.2.code)
    else
     o1 = .inr (((⟨#[]⟩ : ByteArray), false, r171.2.2))
   else
    ∃ r190 : (List Int) × Bool × json_parser, (json_parser_char r154.2 x82 r190) ∧
    if r190.2.1 = true then
     o1 = .inl (r190.1, r190.2.2.text, r190.2.2.at_, r190.2.2.out, r190.2.2.in_, r190.2.2.code)
    else
     o1 = .inr (((⟨#[]⟩ : ByteArray), false, r190.2.2))
def json_parser_str (x1 : json_parser) (r : ByteArray × Bool × json_parser) : Prop :=
 ∃ r13 : Bool × json_parser, (json_parser_take x1 (⟨#[34]⟩ : ByteArray) r13) ∧
 if r13.1 = true then
  Rounds (fun (s : (List Int) × ByteArray × Int × (List api_JNode) × Int × Int) o => json_parser_str_b1 s.1 s.2.1 s.2.2.1 s.2.2.2.1 s.2.2.2.2.1 s.2.2.2.2.2 o) (([] : List Int), r13.2.text, r13.2.at_, r13.2.out, r13.2.in_, r13.2.code) r
 else
  r = ((⟨#[]⟩ : ByteArray), false, r13.2)
def json_parser_many_j3 (rc_json_parser_value : json_parser → ByteArray → (Bool × json_parser) → Prop) (x26 : ByteArray) (x25 : Int) (x248 : Int) (x507 : ByteArray) (x508 : ByteArray) (x509 : Int) (x510 : List api_JNode) (x515 : Int) (x516 : Int) (x517 : ByteArray → Int) (o1 : Sum (Int × (ByteArray → Int) × ByteArray × Int × (List api_JNode) × Int × Int) (Int × Int × Bool × json_parser)) : Prop :=
 ∃ r521 : Bool × json_parser, (rc_json_parser_value (⟨x508, x509, x510, x515, x516⟩ : json_parser) x507 r521) ∧
 if r521.1 = true then
  ∃ r535 : json_parser, (json_parser_blanks r521.2 r535) ∧
  ∃ r548 : Bool × json_parser, (json_parser_is r535 x26 r548) ∧
  if r548.1 = true then
   o1 = .inr ((x25, x248, true, (⟨r548.2.text, w64 (r548.2.at_ + 1), r548.2.out, r548.2.in_, r548.2.code⟩ : json_parser)))
  else
   ∃ r562 : Bool × json_parser, (json_parser_take r548.2 (⟨#[44]⟩ : ByteArray) r562) ∧
   if r562.1 = true then
    ∃ r576 : json_parser, (json_parser_blanks r562.2 r576) ∧
    o1 = .inl (w64 (x248 + 1), x517, r576.text, r576.at_, r576.out, r576.in_, r576.code)
   else
    o1 = .inr ((x25, x248, false, r562.2))
 else
  o1 = .inr ((x25, x248, false, r521.2))
def json_parser_many_b2 (x25 : Int) (rc_json_parser_value : json_parser → ByteArray → (Bool × json_parser) → Prop) (x26 : ByteArray) (x248 : Int) (x249 : ByteArray → Int) (x250 : ByteArray) (x251 : Int) (x252 : List api_JNode) (x257 : Int) (x258 : Int) (o1 : Sum (Int × (ByteArray → Int) × ByteArray × Int × (List api_JNode) × Int × Int) (Int × Int × Bool × json_parser)) : Prop :=
 if x25 = 7 then
  ∃ r589 : ByteArray × Bool × json_parser, (json_parser_str (⟨x250, x251, x252, x257, x258⟩ : json_parser) r589) ∧
  if r589.2.1 = true then
   if x249 r589.1 > 0 then
    o1 = .inr ((x25, x248, false, (⟨r589.2.2.text, x251, r589.2.2.out, r589.2.2.in_, r589.2.2.code⟩ : json_parser)))
   else
    ∃ r604 : json_parser, (json_parser_blanks r589.2.2 r604) ∧
    ∃ r617 : Bool × json_parser, (json_parser_take r604 (⟨#[58]⟩ : ByteArray) r617) ∧
    if r617.1 = true then
     ∃ r631 : json_parser, (json_parser_blanks r617.2 r631) ∧
     json_parser_many_j3 rc_json_parser_value x26 x25 x248 r589.1 r631.text r631.at_ r631.out r631.in_ r631.code (updM x249 r589.1 1) o1
    else
     o1 = .inr ((x25, x248, false, r617.2))
  else
   o1 = .inr ((x25, x248, false, r589.2.2))
 else
  json_parser_many_j3 rc_json_parser_value x26 x25 x248 (⟨#[]⟩ : ByteArray) x250 x251 x252 x257 x258 x249 o1
def json_parser_many_j1 (r13 : Bool × json_parser) (rc_json_parser_value : json_parser → ByteArray → (Bool × json_parser) → Prop) (x25 : Int) (x26 : ByteArray) (r : Int × Int × Bool × json_parser) : Prop :=
 ∃ r30 : json_parser, (json_parser_blanks (⟨r13.2.text, w64 (r13.2.at_ + 1), r13.2.out, r13.2.in_, r13.2.code⟩ : json_parser) r30) ∧
 ∃ r43 : Bool × json_parser, (json_parser_is r30 x26 r43) ∧
 if r43.1 = true then
  r = (x25, 0, true, (⟨r43.2.text, w64 (r43.2.at_ + 1), r43.2.out, r43.2.in_, r43.2.code⟩ : json_parser))
 else
  Rounds (fun (s : Int × (ByteArray → Int) × ByteArray × Int × (List api_JNode) × Int × Int) o => json_parser_many_b2 x25 rc_json_parser_value x26 s.1 s.2.1 s.2.2.1 s.2.2.2.1 s.2.2.2.2.1 s.2.2.2.2.2.1 s.2.2.2.2.2.2 o) (1, (fun _ => 0), r43.2.text, r43.2.at_, r43.2.out, r43.2.in_, r43.2.code) r
def json_parser_many_body (rc_json_parser_many : json_parser → (Int × Int × Bool × json_parser) → Prop) (rc_json_parser_value : json_parser → ByteArray → (Bool × json_parser) → Prop) (x1 : json_parser) (r : Int × Int × Bool × json_parser) : Prop :=
 ∃ r13 : Bool × json_parser, (json_parser_is x1 (⟨#[123]⟩ : ByteArray) r13) ∧
 if r13.1 = true then
  json_parser_many_j1 r13 rc_json_parser_value 7 (⟨#[125]⟩ : ByteArray) r
 else
  json_parser_many_j1 r13 rc_json_parser_value 6 (⟨#[93]⟩ : ByteArray) r
def json_parser_value_j1 (x1 : json_parser) (x10 : ByteArray) (x193 : Bool) (x194 : ByteArray) (x195 : Int) (x196 : List api_JNode) (x201 : Int) (x202 : Int) (x203 : Int) (x204 : ByteArray) (x205 : Int) (r : Bool × json_parser) : Prop :=
 (0 ≤ (x1.out.length : Int) ∧ (x1.out.length : Int) < (x196.length : Int)) ∧
 ∃ x207 : List api_JNode, (x207 = x196.set ((x1.out.length : Int) : Int).toNat (⟨x203, x10, x204, x205⟩ : api_JNode)) ∧
 r = (x193, (⟨x194, x195, x207, x201, x202⟩ : json_parser))
def json_parser_value_body (rc_json_parser_many : json_parser → (Int × Int × Bool × json_parser) → Prop) (rc_json_parser_value : json_parser → ByteArray → (Bool × json_parser) → Prop) (x1 : json_parser) (x10 : ByteArray) (r : Bool × json_parser) : Prop :=
 ∃ x19 : List api_JNode, (x19 = x1.out ++ ([(⟨0, x10, (⟨#[]⟩ : ByteArray), 0⟩ : api_JNode)] : List api_JNode)) ∧
 (x19.length * 48 ≤ 211106232532992) ∧
 ∃ r45 : Bool × json_parser, (json_parser_is (⟨x1.text, x1.at_, x19, x1.in_, x1.code⟩ : json_parser) (⟨#[110]⟩ : ByteArray) r45) ∧
 if r45.1 = true then
  ∃ r215 : Bool × json_parser, (json_parser_word r45.2 (⟨#[110, 117, 108, 108]⟩ : ByteArray) r215) ∧
  json_parser_value_j1 x1 x10 r215.1 r215.2.text r215.2.at_ r215.2.out r215.2.in_ r215.2.code 1 (⟨#[]⟩ : ByteArray) 0 r
 else
  ∃ r228 : Bool × json_parser, (json_parser_is r45.2 (⟨#[102]⟩ : ByteArray) r228) ∧
  if r228.1 = true then
   ∃ r242 : Bool × json_parser, (json_parser_word r228.2 (⟨#[102, 97, 108, 115, 101]⟩ : ByteArray) r242) ∧
   json_parser_value_j1 x1 x10 r242.1 r242.2.text r242.2.at_ r242.2.out r242.2.in_ r242.2.code 2 (⟨#[]⟩ : ByteArray) 0 r
  else
   ∃ r255 : Bool × json_parser, (json_parser_is r228.2 (⟨#[116]⟩ : ByteArray) r255) ∧
   if r255.1 = true then
    ∃ r269 : Bool × json_parser, (json_parser_word r255.2 (⟨#[116, 114, 117, 101]⟩ : ByteArray) r269) ∧
    json_parser_value_j1 x1 x10 r269.1 r269.2.text r269.2.at_ r269.2.out r269.2.in_ r269.2.code 3 (⟨#[]⟩ : ByteArray) 0 r
   else
    ∃ r282 : Bool × json_parser, (json_parser_is r255.2 (⟨#[34]⟩ : ByteArray) r282) ∧
    if r282.1 = true then
     ∃ r296 : ByteArray × Bool × json_parser, (json_parser_str r282.2 r296) ∧
     json_parser_value_j1 x1 x10 r296.2.1 r296.2.2.text r296.2.2.at_ r296.2.2.out r296.2.2.in_ r296.2.2.code 5 r296.1 0 r
    else
     ∃ r309 : Bool × json_parser, (json_parser_is r282.2 (⟨#[91, 123]⟩ : ByteArray) r309) ∧
     if r309.1 = true then
      if r309.2.in_ = 64 then
       r = (false, (⟨r309.2.text, r309.2.at_, r309.2.out, r309.2.in_, 251⟩ : json_parser))
      else
       ∃ r324 : Int × Int × Bool × json_parser, (rc_json_parser_many (⟨r309.2.text, r309.2.at_, r309.2.out, w64 (r309.2.in_ + 1), r309.2.code⟩ : json_parser) r324) ∧
       json_parser_value_j1 x1 x10 r324.2.2.1 r324.2.2.2.text r324.2.2.2.at_ r324.2.2.2.out (w64 (r324.2.2.2.in_ - 1)) r324.2.2.2.code r324.1 (⟨#[]⟩ : ByteArray) r324.2.1 r
     else
      ∃ r337 : Bool × json_parser, (json_parser_number r309.2 r337) ∧
      (0 ≤ x1.at_ ∧ x1.at_ ≤ r337.2.at_ ∧ r337.2.at_ ≤ (r337.2.text.size : Int)) ∧
      json_parser_value_j1 x1 x10 r337.1 r337.2.text r337.2.at_ r337.2.out r337.2.in_ r337.2.code 4 (r337.2.text.extract (x1.at_ : Int).toNat (r337.2.at_ : Int).toNat) 0 r
def json_parser_many_all : Nat → (json_parser → (Int × Int × Bool × json_parser) → Prop) × (json_parser → ByteArray → (Bool × json_parser) → Prop)
 | 0 => (fun _ _ => False, fun _ _ _ => False)
 | n + 1 => (json_parser_many_body ((json_parser_many_all n).1) ((json_parser_many_all n).2), json_parser_value_body ((json_parser_many_all n).1) ((json_parser_many_all n).2))
def json_parser_many_n (n : Nat) : json_parser → (Int × Int × Bool × json_parser) → Prop := (json_parser_many_all n).1
def json_parser_value_n (n : Nat) : json_parser → ByteArray → (Bool × json_parser) → Prop := (json_parser_many_all n).2
def json_parser_value (x1 : json_parser) (x10 : ByteArray) (r : Bool × json_parser) : Prop := ∃ n, json_parser_value_n n x1 x10 r
def json_Parse_j1 (x46 : Bool) (x48 : Int) (x49 : List api_JNode) (x55 : Int) (r : (List api_JNode) × Int × Int) : Prop :=
 if x46 = true then
  r = (x49, 0, 0)
 else
  r = (([] : List api_JNode), x55, x48)
def json_Parse (x1 : ByteArray) (r : (List api_JNode) × Int × Int) : Prop :=
 ∃ r8 : json_parser, (json_parser_blanks (⟨x1, 0, ([] : List api_JNode), 0, 250⟩ : json_parser) r8) ∧
 ∃ r21 : Bool × json_parser, (json_parser_value r8 (⟨#[]⟩ : ByteArray) r21) ∧
 if r21.1 = true then
  ∃ r60 : json_parser, (json_parser_blanks r21.2 r60) ∧
  json_Parse_j1 (r60.at_ == (x1.size : Int)) r60.at_ r60.out r60.code r
 else
  json_Parse_j1 r21.1 r21.2.at_ r21.2.out r21.2.code r
def trellislaw25_started  (r : Bool) : Prop :=
 ∃ r4 : (List api_JNode) × Int × Int, (json_Parse (⟨#[32, 123, 34, 97, 34, 58, 91, 49, 44, 34, 92, 117, 48, 48, 101, 57, 34, 93, 125]⟩ : ByteArray) r4) ∧
 ∃ r17 : ByteArray × Int, (json_Print r4.1 r17) ∧
 ∃ r25 : Int × Bool, (json_Int r4.1 2 r25) ∧
 if r4.2.1 = 0 then
  if r4.2.2 = 0 then
   if (r4.1.length : Int) = 4 then
    (0 ≤ (1 : Int) ∧ (1 : Int) < (r4.1.length : Int)) ∧
    if (ix r4.1 1).key = (⟨#[97]⟩ : ByteArray) then
     (0 ≤ (3 : Int) ∧ (3 : Int) < (r4.1.length : Int)) ∧
     if (ix r4.1 3).text = (⟨#[195, 169]⟩ : ByteArray) then
      if r17.2 = 0 then
       if r17.1 = (⟨#[123, 34, 97, 34, 58, 91, 49, 44, 34, 195, 169, 34, 93, 125]⟩ : ByteArray) then
        ∃ r42 : Int, (json_Member r4.1 0 (⟨#[97]⟩ : ByteArray) r42) ∧
        if r42 = 1 then
         if r25.1 = 1 then
          r = r25.2
         else
          r = false
        else
         r = false
       else
        r = false
      else
       r = false
     else
      r = false
    else
     r = false
   else
    r = false
  else
   r = false
 else
  r = false
def trellislaw25_JsonReads_j1 (x75 : Bool) (r : Bool) : Prop :=
 r = x75
def trellislaw25_JsonReads (x1 : ByteArray) (r : Bool) : Prop :=
 ∃ r5 : Bool, (trellislaw25_started  r5) ∧
 if r5 = true then
  ∃ r14 : (List api_JNode) × Int × Int, (json_Parse x1 r14) ∧
  if r14.2.1 = 0 then
   ∃ r28 : ByteArray × Int, (json_Print r14.1 r28) ∧
   ∃ r36 : (List api_JNode) × Int × Int, (json_Parse r28.1 r36) ∧
   if r14.2.2 = 0 then
    ∃ r50 : Bool, (json_Shaped r14.1 r50) ∧
    if r50 = true then
     if r28.2 = 0 then
      if (r28.1.size : Int) ≤ (x1.size : Int) then
       if r36.2.1 = 0 then
        ∃ r62 : Bool, (trellislaw25_same r14.1 r36.1 r62) ∧
        r = r62
       else
        r = false
      else
       r = false
     else
      r = false
    else
     r = false
   else
    r = false
  else
   if r14.2.1 = 250 then
    if r14.2.2 ≥ 0 then
     if r14.2.2 ≤ (x1.size : Int) then
      trellislaw25_JsonReads_j1 ((r14.1.length : Int) == 0) r
     else
      trellislaw25_JsonReads_j1 false r
    else
     trellislaw25_JsonReads_j1 false r
   else
    if r14.2.1 = 251 then
     if r14.2.2 ≥ 0 then
      if r14.2.2 ≤ (x1.size : Int) then
       trellislaw25_JsonReads_j1 ((r14.1.length : Int) == 0) r
      else
       trellislaw25_JsonReads_j1 false r
     else
      trellislaw25_JsonReads_j1 false r
    else
     trellislaw25_JsonReads_j1 false r
 else
  r = false
end Go.Proofs.YtmfopcbjgbphaaaDoor.R
