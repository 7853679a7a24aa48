/- What the functions answer, as plain relations, printed by my own tool off the program's translation. No condition. -/
import Derived.Test.YtmfopcbjgbphaaaDoorP0
import Derived.Lib.ValidU
set_option linter.unusedVariables false
namespace Go.Proofs.YtmfopcbjgbphaaaDoor.R
open Go.Proofs.YtmfopcbjgbphaaaDoor.B
def tb_0 : List Int := [0, 0, 0, 0, 0, 0, 0, 0, 98, 116, 110, 0, 102, 114, 0, 0, 0, 0, 0, 0, 0, 0, 0, 0, 0, 0, 0, 0, 0, 0, 0, 0, 0, 0, 34, 0, 0, 0, 0, 0, 0, 0, 0, 0, 0, 0, 0, 0, 0, 0, 0, 0, 0, 0, 0, 0, 0, 0, 0, 0, 0, 0, 0, 0, 0, 0, 0, 0, 0, 0, 0, 0, 0, 0, 0, 0, 0, 0, 0, 0, 0, 0, 0, 0, 0, 0, 0, 0, 0, 0, 0, 0, 92, 0, 0, 0, 0, 0, 0, 0, 0, 0, 0, 0, 0, 0, 0, 0, 0, 0, 0, 0, 0, 0, 0, 0, 0, 0, 0, 0, 0, 0, 0, 0, 0, 0, 0, 0, 0, 0, 0, 0, 0, 0, 0, 0, 0, 0, 0, 0, 0, 0, 0, 0, 0, 0, 0, 0, 0, 0, 0, 0, 0, 0, 0, 0, 0, 0, 0, 0, 0, 0, 0, 0, 0, 0, 0, 0, 0, 0, 0, 0, 0, 0, 0, 0, 0, 0, 0, 0, 0, 0, 0, 0, 0, 0, 0, 0, 0, 0, 0, 0, 0, 0, 0, 0, 0, 0, 0, 0, 0, 0, 0, 0, 0, 0, 0, 0, 0, 0, 0, 0, 0, 0, 0, 0, 0, 0, 0, 0, 0, 0, 0, 0, 0, 0, 0, 0, 0, 0, 0, 0, 0, 0, 0, 0, 0, 0, 0, 0, 0, 0, 0, 0, 0, 0, 0, 0, 0, 0, 0, 0, 0, 0, 0, 0]
def tb_1 : List Int := [240, 240, 240, 240, 240, 240, 240, 240, 240, 240, 240, 240, 240, 240, 240, 240, 240, 240, 240, 240, 240, 240, 240, 240, 240, 240, 240, 240, 240, 240, 240, 240, 240, 240, 240, 240, 240, 240, 240, 240, 240, 240, 240, 240, 240, 240, 240, 240, 240, 240, 240, 240, 240, 240, 240, 240, 240, 240, 240, 240, 240, 240, 240, 240, 240, 240, 240, 240, 240, 240, 240, 240, 240, 240, 240, 240, 240, 240, 240, 240, 240, 240, 240, 240, 240, 240, 240, 240, 240, 240, 240, 240, 240, 240, 240, 240, 240, 240, 240, 240, 240, 240, 240, 240, 240, 240, 240, 240, 240, 240, 240, 240, 240, 240, 240, 240, 240, 240, 240, 240, 240, 240, 240, 240, 240, 240, 240, 240, 241, 241, 241, 241, 241, 241, 241, 241, 241, 241, 241, 241, 241, 241, 241, 241, 241, 241, 241, 241, 241, 241, 241, 241, 241, 241, 241, 241, 241, 241, 241, 241, 241, 241, 241, 241, 241, 241, 241, 241, 241, 241, 241, 241, 241, 241, 241, 241, 241, 241, 241, 241, 241, 241, 241, 241, 241, 241, 241, 241, 241, 241, 241, 241, 241, 241, 2, 2, 2, 2, 2, 2, 2, 2, 2, 2, 2, 2, 2, 2, 2, 2, 2, 2, 2, 2, 2, 2, 2, 2, 2, 2, 2, 2, 2, 2, 19, 3, 3, 3, 3, 3, 3, 3, 3, 3, 3, 3, 3, 35, 3, 3, 52, 4, 4, 4, 68, 241, 241, 241, 241, 241, 241, 241, 241, 241, 241, 241]
def tb_2 : List Int := [128, 191, 160, 191, 128, 159, 144, 191, 128, 143, 0, 0, 0, 0, 0, 0, 0, 0, 0, 0, 0, 0, 0, 0, 0, 0, 0, 0, 0, 0, 0, 0]
def tb_3 : List Int := [0, 0, 0, 0, 0, 0, 0, 0, 0, 0, 0, 0, 0, 0, 0, 0, 0, 0, 0, 0, 0, 0, 0, 0, 0, 0, 0, 0, 0, 0, 0, 0, 0, 0, 34, 0, 0, 0, 0, 0, 0, 0, 0, 0, 0, 0, 0, 47, 0, 0, 0, 0, 0, 0, 0, 0, 0, 0, 0, 0, 0, 0, 0, 0, 0, 0, 0, 0, 0, 0, 0, 0, 0, 0, 0, 0, 0, 0, 0, 0, 0, 0, 0, 0, 0, 0, 0, 0, 0, 0, 0, 0, 92, 0, 0, 0, 0, 0, 8, 0, 0, 0, 12, 0, 0, 0, 0, 0, 0, 0, 10, 0, 0, 0, 13, 0, 9, 0, 0, 0, 0, 0, 0, 0, 0, 0, 0, 0, 0, 0, 0, 0, 0, 0, 0, 0, 0, 0, 0, 0, 0, 0, 0, 0, 0, 0, 0, 0, 0, 0, 0, 0, 0, 0, 0, 0, 0, 0, 0, 0, 0, 0, 0, 0, 0, 0, 0, 0, 0, 0, 0, 0, 0, 0, 0, 0, 0, 0, 0, 0, 0, 0, 0, 0, 0, 0, 0, 0, 0, 0, 0, 0, 0, 0, 0, 0, 0, 0, 0, 0, 0, 0, 0, 0, 0, 0, 0, 0, 0, 0, 0, 0, 0, 0, 0, 0, 0, 0, 0, 0, 0, 0, 0, 0, 0, 0, 0, 0, 0, 0, 0, 0, 0, 0, 0, 0, 0, 0, 0, 0, 0, 0, 0, 0, 0, 0, 0, 0, 0, 0, 0, 0, 0, 0, 0, 0]
def tb_6 : List Int := [0, 1, 28, 2, 29, 14, 24, 3, 30, 22, 20, 15, 25, 17, 4, 8, 31, 27, 13, 23, 21, 19, 16, 7, 26, 12, 18, 6, 11, 5, 10, 9]
def tb_7 : List Int := [0, 1, 56, 2, 57, 49, 28, 3, 61, 58, 42, 50, 38, 29, 17, 4, 62, 47, 59, 36, 45, 43, 51, 22, 53, 39, 33, 30, 24, 18, 12, 5, 63, 55, 48, 27, 60, 41, 37, 16, 46, 35, 44, 21, 52, 32, 23, 11, 54, 26, 40, 15, 34, 20, 31, 10, 25, 14, 19, 9, 13, 8, 7, 6]
structure api_JNode where
 kind : Int
 key : ByteArray
 text : ByteArray
 kids : Int
 deriving Inhabited, DecidableEq
structure json_parser where
 text : ByteArray
 at_ : Int
 out : List api_JNode
 in_ : Int
 code : Int
 deriving Inhabited, DecidableEq
structure trellisref25_Reader where
 s : ByteArray
 l : List api_JNode
 e : Int
 at_ : Int
 deriving Inhabited, DecidableEq
structure strings_Builder where
 addr : Bool
 buf : List Int
 deriving Inhabited
def trellisref25_Beyond_b2 (x40 : Int) (x1 : List api_JNode) (x207 : List Int) (o2 : Sum (List Int) (Sum ((List Int) × Int) Bool)) : Prop :=
 if (x207.length : Int) > 0 then
  (0 ≤ w64 ((x207.length : Int) - 1) ∧ w64 ((x207.length : Int) - 1) < (x207.length : Int)) ∧
  if ix x207 (w64 ((x207.length : Int) - 1)) ≤ 0 then
   (0 ≤ (0 : Int) ∧ (0 : Int) ≤ w64 ((x207.length : Int) - 1) ∧ w64 ((x207.length : Int) - 1) ≤ (x207.length : Int)) ∧
   ∃ x256 : List Int, (x256 = x207.take (w64 ((x207.length : Int) - 1) : Int).toNat) ∧
   o2 = .inl x256
  else
   ∃ x260 : List Int, (x260 = x207.set (w64 ((x207.length : Int) - 1) : Int).toNat (w64 ((ix x207 (w64 ((x207.length : Int) - 1))) - 1))) ∧
   (0 ≤ x40 ∧ x40 < (x1.length : Int)) ∧
   ∃ x275 : List Int, (x275 = x260 ++ ([(ix x1 x40).kids] : List Int)) ∧
   (x275.length * 8 ≤ 211106232532992) ∧
   if (x275.length : Int) > 65536 then
    o2 = .inr (.inr (true))
   else
    o2 = .inr (.inl (x275, w64 (x40 + 1)))
 else
  (0 ≤ x40 ∧ x40 < (x1.length : Int)) ∧
  ∃ x287 : List Int, (x287 = x207 ++ ([(ix x1 x40).kids] : List Int)) ∧
  (x287.length * 8 ≤ 211106232532992) ∧
  if (x287.length : Int) > 65536 then
   o2 = .inr (.inr (true))
  else
   o2 = .inr (.inl (x287, w64 (x40 + 1)))
def trellisref25_Beyond_b1 (x1 : List api_JNode) (x35 : List Int) (x40 : Int) (o1 : Sum ((List Int) × Int) Bool) : Prop :=
 if x40 < (x1.length : Int) then
  Rounds (fun (s : (List Int)) o => trellisref25_Beyond_b2 x40 x1 s o) x35 o1
 else
  o1 = .inr (false)
def trellisref25_Beyond (x1 : List api_JNode) (r : Bool) : Prop :=
 Rounds (fun (s : (List Int) × Int) o => trellisref25_Beyond_b1 x1 s.1 s.2 o) (([] : List Int), 0) r
def trellislaw25_twin_b1 (x1 : List api_JNode) (x20 : List api_JNode) (x25 : Int) (o1 : Sum ((List api_JNode) × Int) (List api_JNode)) : Prop :=
 if x25 < (x1.length : Int) then
  (0 ≤ x25 ∧ x25 < (x1.length : Int)) ∧
  ∃ x47 : List api_JNode, (x47 = x20 ++ ([ix x1 x25] : List api_JNode)) ∧
  (x47.length * 48 ≤ 211106232532992) ∧
  o1 = .inl (x47, w64 (x25 + 1))
 else
  o1 = .inr (x20)
def trellislaw25_twin (x1 : List api_JNode) (r : List api_JNode) : Prop :=
 Rounds (fun (s : (List api_JNode) × Int) o => trellislaw25_twin_b1 x1 s.1 s.2 o) (([] : List api_JNode), 0) r
def trellislaw25_roomy (x1 : List api_JNode) (r : List api_JNode) : Prop :=
 ∃ r9 : List api_JNode, (trellislaw25_twin x1 r9) ∧
 ∃ x25 : List api_JNode, (x25 = r9 ++ ([(⟨0, (⟨#[109, 97, 114, 107]⟩ : ByteArray), (⟨#[]⟩ : ByteArray), 0⟩ : api_JNode), (⟨0, (⟨#[109, 97, 114, 107]⟩ : ByteArray), (⟨#[]⟩ : ByteArray), 0⟩ : api_JNode)] : List api_JNode)) ∧
 (x25.length * 48 ≤ 211106232532992) ∧
 r = x25
def unicode_utf8_ValidString (x1 : ByteArray) (r : Bool) : Prop :=
 (x1.size ≤ 9223372036854775807) ∧ r = Lib.validD x1.data.toList
def internal_stringslite_IndexByte (x1 : ByteArray) (x2 : Int) (r : Int) : Prop :=
 r = idxB x1 x2
def strings_IndexByte (x1 : ByteArray) (x2 : Int) (r : Int) : Prop :=
 ∃ r6 : Int, (internal_stringslite_IndexByte x1 x2 r6) ∧
 r = r6
def json_parser_is (x1 : json_parser) (x10 : ByteArray) (r : Bool × json_parser) : Prop :=
 if x1.at_ < (x1.text.size : Int) then
  (0 ≤ x1.at_ ∧ x1.at_ < (x1.text.size : Int)) ∧
  ∃ r16 : Int, (strings_IndexByte x10 (bt x1.text x1.at_) r16) ∧
  r = (decide (r16 ≥ 0), x1)
 else
  r = (false, x1)
def json_parser_take (x1 : json_parser) (x10 : ByteArray) (r : Bool × json_parser) : Prop :=
 ∃ r14 : Bool × json_parser, (json_parser_is x1 x10 r14) ∧
 if r14.1 = true then
  r = (true, (⟨r14.2.text, w64 (r14.2.at_ + 1), r14.2.out, r14.2.in_, r14.2.code⟩ : json_parser))
 else
  r = (false, r14.2)
def json_parser_digits_b1 (x39 : ByteArray) (x40 : Int) (x41 : List api_JNode) (x46 : Int) (x47 : Int) (o1 : Sum (ByteArray × Int × (List api_JNode) × Int × Int) (Bool × json_parser)) : Prop :=
 ∃ r65 : Bool × json_parser, (json_parser_is (⟨x39, x40, x41, x46, x47⟩ : json_parser) (⟨#[48, 49, 50, 51, 52, 53, 54, 55, 56, 57]⟩ : ByteArray) r65) ∧
 if r65.1 = true then
  o1 = .inl (r65.2.text, w64 (r65.2.at_ + 1), r65.2.out, r65.2.in_, r65.2.code)
 else
  o1 = .inr ((true, r65.2))
def json_parser_digits (x1 : json_parser) (r : Bool × json_parser) : Prop :=
 ∃ r13 : Bool × json_parser, (json_parser_take x1 (⟨#[48, 49, 50, 51, 52, 53, 54, 55, 56, 57]⟩ : ByteArray) r13) ∧
 if r13.1 = true then
  Rounds (fun (s : ByteArray × Int × (List api_JNode) × Int × Int) o => json_parser_digits_b1 s.1 s.2.1 s.2.2.1 s.2.2.2.1 s.2.2.2.2 o) (r13.2.text, r13.2.at_, r13.2.out, r13.2.in_, r13.2.code) r
 else
  r = (false, r13.2)
def json_parser_number_j4 (r120 : Bool × json_parser) (x132 : Int) (r : Bool × json_parser) : Prop :=
 ∃ r136 : Bool × json_parser, (json_parser_digits (⟨r120.2.text, x132, r120.2.out, r120.2.in_, r120.2.code⟩ : json_parser) r136) ∧
 r = (r136.1, r136.2)
def json_parser_number_j3 (x94 : ByteArray) (x95 : Int) (x96 : List api_JNode) (x101 : Int) (x102 : Int) (r : Bool × json_parser) : Prop :=
 ∃ r106 : Bool × json_parser, (json_parser_is (⟨x94, x95, x96, x101, x102⟩ : json_parser) (⟨#[101, 69]⟩ : ByteArray) r106) ∧
 if r106.1 = true then
  ∃ r120 : Bool × json_parser, (json_parser_is (⟨r106.2.text, w64 (r106.2.at_ + 1), r106.2.out, r106.2.in_, r106.2.code⟩ : json_parser) (⟨#[43, 45]⟩ : ByteArray) r120) ∧
  if r120.1 = true then
   json_parser_number_j4 r120 (w64 (r120.2.at_ + 1)) r
  else
   json_parser_number_j4 r120 r120.2.at_ r
 else
  r = (true, r106.2)
def json_parser_number_j2 (x55 : ByteArray) (x56 : Int) (x57 : List api_JNode) (x62 : Int) (x63 : Int) (r : Bool × json_parser) : Prop :=
 ∃ r68 : Bool × json_parser, (json_parser_is (⟨x55, x56, x57, x62, x63⟩ : json_parser) (⟨#[46]⟩ : ByteArray) r68) ∧
 if r68.1 = true then
  ∃ r149 : Bool × json_parser, (json_parser_digits (⟨r68.2.text, w64 (r68.2.at_ + 1), r68.2.out, r68.2.in_, r68.2.code⟩ : json_parser) r149) ∧
  if r149.1 = true then
   json_parser_number_j3 r149.2.text r149.2.at_ r149.2.out r149.2.in_ r149.2.code r
  else
   r = (false, r149.2)
 else
  json_parser_number_j3 r68.2.text r68.2.at_ r68.2.out r68.2.in_ r68.2.code r
def json_parser_number_j1 (r13 : Bool × json_parser) (x25 : Int) (r : Bool × json_parser) : Prop :=
 ∃ r29 : Bool × json_parser, (json_parser_is (⟨r13.2.text, x25, r13.2.out, r13.2.in_, r13.2.code⟩ : json_parser) (⟨#[48]⟩ : ByteArray) r29) ∧
 if r29.1 = true then
  json_parser_number_j2 r29.2.text (w64 (r29.2.at_ + 1)) r29.2.out r29.2.in_ r29.2.code r
 else
  ∃ r163 : Bool × json_parser, (json_parser_digits r29.2 r163) ∧
  if r163.1 = true then
   json_parser_number_j2 r163.2.text r163.2.at_ r163.2.out r163.2.in_ r163.2.code r
  else
   r = (false, r163.2)
def json_parser_number (x1 : json_parser) (r : Bool × json_parser) : Prop :=
 ∃ r13 : Bool × json_parser, (json_parser_is x1 (⟨#[45]⟩ : ByteArray) r13) ∧
 if r13.1 = true then
  json_parser_number_j1 r13 (w64 (r13.2.at_ + 1)) r
 else
  json_parser_number_j1 r13 r13.2.at_ r
def json_sound_j3 (x1 : api_JNode) (x101 : Bool) (r : Bool) : Prop :=
 if x101 = true then
  if x1.kids = 0 then
   r = (seq x1.text (⟨#[]⟩ : ByteArray))
  else
   r = false
 else
  r = false
def json_sound_j2 (x1 : api_JNode) (x18 : Bool) (r : Bool) : Prop :=
 if x18 = true then
  r = (seq x1.text (⟨#[]⟩ : ByteArray))
 else
  if x1.kind = 4 then
   if x1.kids = 0 then
    if x1.text = (⟨#[]⟩ : ByteArray) then
     r = false
    else
     ∃ r34 : Bool × json_parser, (json_parser_number (⟨x1.text, 0, ([] : List api_JNode), 0, 0⟩ : json_parser) r34) ∧
     if r34.1 = true then
      r = (r34.2.at_ == (x1.text.size : Int))
     else
      r = false
   else
    r = false
  else
   if x1.kind = 5 then
    if x1.kids = 0 then
     ∃ r93 : Bool, (unicode_utf8_ValidString x1.text r93) ∧
     r = r93
    else
     r = false
   else
    if x1.kind = 1 then
     json_sound_j3 x1 (x1.kind == 1) r
    else
     if x1.kind = 2 then
      json_sound_j3 x1 (x1.kind == 2) r
     else
      json_sound_j3 x1 (x1.kind == 3) r
def json_sound_j1 (x1 : api_JNode) (x14 : Bool) (r : Bool) : Prop :=
 if x14 = true then
  r = false
 else
  if x1.kind = 6 then
   json_sound_j2 x1 (x1.kind == 6) r
  else
   json_sound_j2 x1 (x1.kind == 7) r
def json_sound (x1 : api_JNode) (r : Bool) : Prop :=
 if x1.kids < 0 then
  json_sound_j1 x1 true r
 else
  ∃ r109 : Bool, (unicode_utf8_ValidString x1.key r109) ∧
  json_sound_j1 x1 (!r109) r
def json_subtree_b3 (x1 : List api_JNode) (x6 : Int) (rc_json_subtree : (List api_JNode) → Int → Int → Bool → Int → Prop) (x7 : Int) (x53 : Int) (x54 : Int) (x55 : ByteArray → Int) (o1 : Sum (Int × Int × (ByteArray → Int)) Int) : Prop :=
 if x54 < (ix x1 x6).kids then
  ∃ r75 : Int, (rc_json_subtree x1 x53 (w64 (x7 + 1)) (((ix x1 x6).kind) == 7) r75) ∧
  if r75 < 0 then
   o1 = .inr (-1)
  else
   if (ix x1 x6).kind = 7 then
    (0 ≤ x53 ∧ x53 < (x1.length : Int)) ∧
    if x55 ((ix x1 x53).key) > 0 then
     o1 = .inr (-1)
    else
     o1 = .inl (r75, w64 (x54 + 1), (updM x55 ((ix x1 x53).key) 1))
   else
    o1 = .inl (r75, w64 (x54 + 1), x55)
 else
  o1 = .inr (x53)
def json_subtree_j2 (x6 : Int) (x7 : Int) (x1 : List api_JNode) (rc_json_subtree : (List api_JNode) → Int → Int → Bool → Int → Prop) (x32 : Bool) (r : Int) : Prop :=
 if x32 = true then
  r = w64 (x6 + 1)
 else
  if x7 ≥ 64 then
   r = -1
  else
   Rounds (fun (s : Int × Int × (ByteArray → Int)) o => json_subtree_b3 x1 x6 rc_json_subtree x7 s.1 s.2.1 s.2.2 o) (w64 (x6 + 1), 0, (fun _ => 0)) r
def json_subtree_j1 (x6 : Int) (x1 : List api_JNode) (x7 : Int) (rc_json_subtree : (List api_JNode) → Int → Int → Bool → Int → Prop) (x24 : Bool) (r : Int) : Prop :=
 if x24 = true then
  r = -1
 else
  (0 ≤ x6 ∧ x6 < (x1.length : Int)) ∧
  if (ix x1 x6).kind = 6 then
   json_subtree_j2 x6 x7 x1 rc_json_subtree false r
  else
   json_subtree_j2 x6 x7 x1 rc_json_subtree (((ix x1 x6).kind) != 7) r
def json_subtree_body (rc_json_subtree : (List api_JNode) → Int → Int → Bool → Int → Prop) (x1 : List api_JNode) (x6 : Int) (x7 : Int) (x8 : Bool) (r : Int) : Prop :=
 if x6 ≥ (x1.length : Int) then
  json_subtree_j1 x6 x1 x7 rc_json_subtree true r
 else
  (0 ≤ x6 ∧ x6 < (x1.length : Int)) ∧
  ∃ r93 : Bool, (json_sound (ix x1 x6) r93) ∧
  if r93 = true then
   if x8 = true then
    json_subtree_j1 x6 x1 x7 rc_json_subtree false r
   else
    json_subtree_j1 x6 x1 x7 rc_json_subtree (!(seq ((ix x1 x6).key) (⟨#[]⟩ : ByteArray))) r
  else
   json_subtree_j1 x6 x1 x7 rc_json_subtree true r
def json_subtree_n : Nat → (List api_JNode) → Int → Int → Bool → Int → Prop
 | 0 => fun _ _ _ _ _ => False
 | n + 1 => json_subtree_body (json_subtree_n n)
def json_subtree (x1 : List api_JNode) (x6 : Int) (x7 : Int) (x8 : Bool) (r : Int) : Prop := ∃ n, json_subtree_n n x1 x6 x7 x8 r
def json_Shaped (x1 : List api_JNode) (r : Bool) : Prop :=
 if (x1.length : Int) > 0 then
  ∃ r10 : Int, (json_subtree x1 0 0 false r10) ∧
  r = (r10 == (x1.length : Int))
 else
  r = false
def json_size_b1 (x6 : Int) (x1 : List api_JNode) (x13 : Int) (x14 : Int) (o1 : Sum (Int × Int) Int) : Prop :=
 if x14 > 0 then
  (0 ≤ w64 (x6 + x13) ∧ w64 (x6 + x13) < (x1.length : Int)) ∧
  o1 = .inl (w64 (x13 + 1), w64 ((w64 (x14 + ((ix x1 (w64 (x6 + x13))).kids))) - 1))
 else
  o1 = .inr (x13)
def json_size (x1 : List api_JNode) (x6 : Int) (r : Int) : Prop :=
 (0 ≤ x6 ∧ x6 < (x1.length : Int)) ∧
 Rounds (fun (s : Int × Int) o => json_size_b1 x6 x1 s.1 s.2 o) (1, (ix x1 x6).kids) r
def json_Member_b2 (x1 : List api_JNode) (x6 : Int) (x7 : ByteArray) (x39 : Int) (x40 : Int) (o1 : Sum (Int × Int) Int) : Prop :=
 if x40 < (ix x1 x6).kids then
  (0 ≤ x39 ∧ x39 < (x1.length : Int)) ∧
  if (ix x1 x39).key = x7 then
   o1 = .inr (x39)
  else
   ∃ r60 : Int, (json_size x1 x39 r60) ∧
   o1 = .inl (w64 (x39 + r60), w64 (x40 + 1))
 else
  o1 = .inr (-1)
def json_Member_j1 (x6 : Int) (x1 : List api_JNode) (x7 : ByteArray) (x22 : Bool) (r : Int) : Prop :=
 if x22 = true then
  r = -1
 else
  (0 ≤ x6 ∧ x6 < (x1.length : Int)) ∧
  Rounds (fun (s : Int × Int) o => json_Member_b2 x1 x6 x7 s.1 s.2 o) (w64 (x6 + 1), 0) r
def json_Member (x1 : List api_JNode) (x6 : Int) (x7 : ByteArray) (r : Int) : Prop :=
 if x6 < 0 then
  json_Member_j1 x6 x1 x7 true r
 else
  if x6 ≥ (x1.length : Int) then
   json_Member_j1 x6 x1 x7 true r
  else
   (0 ≤ x6 ∧ x6 < (x1.length : Int)) ∧
   if (ix x1 x6).kind = 7 then
    ∃ r73 : Bool, (json_Shaped x1 r73) ∧
    json_Member_j1 x6 x1 x7 (!r73) r
   else
    json_Member_j1 x6 x1 x7 true r
def internal_stringslite_HasPrefix (x1 : ByteArray) (x2 : ByteArray) (r : Bool) : Prop :=
 if (x1.size : Int) ≥ (x2.size : Int) then
  (0 ≤ (0 : Int) ∧ (0 : Int) ≤ (x2.size : Int) ∧ (x2.size : Int) ≤ (x1.size : Int)) ∧
  r = (seq (x1.extract (0 : Int).toNat ((x2.size : Int) : Int).toNat) x2)
 else
  r = false
def internal_stringslite_CutPrefix (x1 : ByteArray) (x2 : ByteArray) (r : ByteArray × Bool) : Prop :=
 ∃ r6 : Bool, (internal_stringslite_HasPrefix x1 x2 r6) ∧
 if r6 = true then
  (0 ≤ (x2.size : Int) ∧ (x2.size : Int) ≤ (x1.size : Int) ∧ (x1.size : Int) ≤ (x1.size : Int)) ∧
  r = (x1.extract ((x2.size : Int) : Int).toNat ((x1.size : Int) : Int).toNat, true)
 else
  r = (x1, false)
def strings_CutPrefix (x1 : ByteArray) (x2 : ByteArray) (r : ByteArray × Bool) : Prop :=
 ∃ r6 : ByteArray × Bool, (internal_stringslite_CutPrefix x1 x2 r6) ∧
 r = (r6.1, r6.2)
def json_Int_j3 (x46 : Int) (r28 : ByteArray × Bool) (x45 : Int) (x63 : Bool) (o1 : Sum (Int × Int) (Int × Bool)) : Prop :=
 if x63 = true then
  o1 = .inr ((0, false))
 else
  (0 ≤ x46 ∧ x46 < (r28.1.size : Int)) ∧
  if x45 > IntKind.u64.wrap (Int.tdiv (IntKind.u64.wrap (9223372036854775808 - (IntKind.u64.wrap (IntKind.u8.wrap ((bt r28.1 x46) - 48))))) 10) then
   o1 = .inr ((0, false))
  else
   o1 = .inl (IntKind.u64.wrap ((IntKind.u64.wrap (10 * x45)) + (IntKind.u64.wrap (IntKind.u8.wrap ((bt r28.1 x46) - 48)))), w64 (x46 + 1))
def json_Int_b2 (r28 : ByteArray × Bool) (x45 : Int) (x46 : Int) (o1 : Sum (Int × Int) (Int × Bool)) : Prop :=
 if x46 < (r28.1.size : Int) then
  (0 ≤ x46 ∧ x46 < (r28.1.size : Int)) ∧
  if bt r28.1 x46 < 48 then
   json_Int_j3 x46 r28 x45 true o1
  else
   json_Int_j3 x46 r28 x45 (decide (bt r28.1 x46 > 57)) o1
 else
  if r28.2 = true then
   o1 = .inr ((w64 (IntKind.u64.wrap (0 - x45)), true))
  else
   if x45 > 9223372036854775807 then
    o1 = .inr ((0, false))
   else
    o1 = .inr ((w64 (x45), true))
def json_Int_j1 (x6 : Int) (x1 : List api_JNode) (x21 : Bool) (r : Int × Bool) : Prop :=
 if x21 = true then
  r = (0, false)
 else
  (0 ≤ x6 ∧ x6 < (x1.length : Int)) ∧
  ∃ r28 : ByteArray × Bool, (strings_CutPrefix ((ix x1 x6).text) (⟨#[45]⟩ : ByteArray) r28) ∧
  Rounds (fun (s : Int × Int) o => json_Int_b2 r28 s.1 s.2 o) (0, 0) r
def json_Int (x1 : List api_JNode) (x6 : Int) (r : Int × Bool) : Prop :=
 if x6 < 0 then
  json_Int_j1 x6 x1 true r
 else
  if x6 ≥ (x1.length : Int) then
   json_Int_j1 x6 x1 true r
  else
   (0 ≤ x6 ∧ x6 < (x1.length : Int)) ∧
   if (ix x1 x6).kind = 4 then
    ∃ r79 : Bool, (json_Shaped x1 r79) ∧
    json_Int_j1 x6 x1 (!r79) r
   else
    json_Int_j1 x6 x1 true r
def trellisref25_Behind_j2 (x23 : Int) (x1 : List api_JNode) (x24 : Int) (x48 : Bool) (o1 : Sum (Int × Int) Int) : Prop :=
 if x48 = true then
  o1 = .inr (-1)
 else
  (0 ≤ x23 ∧ x23 < (x1.length : Int)) ∧
  o1 = .inl (w64 (x23 + 1), w64 ((w64 (x24 - 1)) + ((ix x1 x23).kids)))
def trellisref25_Behind_b1 (x1 : List api_JNode) (x23 : Int) (x24 : Int) (o1 : Sum (Int × Int) Int) : Prop :=
 if x24 > 0 then
  if x23 ≥ (x1.length : Int) then
   trellisref25_Behind_j2 x23 x1 x24 true o1
  else
   (0 ≤ x23 ∧ x23 < (x1.length : Int)) ∧
   if (ix x1 x23).kids < 0 then
    trellisref25_Behind_j2 x23 x1 x24 true o1
   else
    trellisref25_Behind_j2 x23 x1 x24 (decide ((ix x1 x23).kids > (x1.length : Int))) o1
 else
  o1 = .inr (x23)
def trellisref25_Behind (x1 : List api_JNode) (x6 : Int) (r : Int) : Prop :=
 Rounds (fun (s : Int × Int) o => trellisref25_Behind_b1 x1 s.1 s.2 o) (x6, 1) r
def trellisref25_Ranges_j1 (x1 : Int) (x5 : Bool) (r : (List Int) × Bool) : Prop :=
 if x5 = true then
  r = (([] : List Int), false)
 else
  if x1 < 224 then
   r = (([128, 191] : List Int), true)
  else
   if x1 = 224 then
    r = (([160, 191, 128, 191] : List Int), true)
   else
    if x1 = 237 then
     r = (([128, 159, 128, 191] : List Int), true)
    else
     if x1 < 240 then
      r = (([128, 191, 128, 191] : List Int), true)
     else
      if x1 = 240 then
       r = (([144, 191, 128, 191, 128, 191] : List Int), true)
      else
       if x1 = 244 then
        r = (([128, 143, 128, 191, 128, 191] : List Int), true)
       else
        r = (([128, 191, 128, 191, 128, 191] : List Int), true)
def trellisref25_Ranges (x1 : Int) (r : (List Int) × Bool) : Prop :=
 if x1 < 128 then
  r = (([] : List Int), true)
 else
  if x1 < 194 then
   trellisref25_Ranges_j1 x1 true r
  else
   trellisref25_Ranges_j1 x1 (decide (x1 > 244)) r
def trellisref25_Reader_stop (x1 : trellisref25_Reader) (x10 : Int) (x11 : Int) (r : Int × trellisref25_Reader) : Prop :=
 if x1.e = 0 then
  r = (x11, (⟨x1.s, x1.l, x10, x11⟩ : trellisref25_Reader))
 else
  r = (x11, x1)
def trellisref25_Reader_char_j2 (x1 : trellisref25_Reader) (x54 : Int) (x55 : Int) (x90 : Bool) (o1 : Sum (Int × Int) (Int × trellisref25_Reader)) : Prop :=
 if x90 = true then
  ∃ r95 : Int × trellisref25_Reader, (trellisref25_Reader_stop x1 250 x54 r95) ∧
  o1 = .inr ((r95.1, r95.2))
 else
  o1 = .inl (w64 (x54 + 1), w64 (x55 + 2))
def trellisref25_Reader_char_b1 (r15 : (List Int) × Bool) (x1 : trellisref25_Reader) (x54 : Int) (x55 : Int) (o1 : Sum (Int × Int) (Int × trellisref25_Reader)) : Prop :=
 if x55 < (r15.1.length : Int) then
  if x54 ≥ (x1.s.size : Int) then
   trellisref25_Reader_char_j2 x1 x54 x55 true o1
  else
   (0 ≤ x54 ∧ x54 < (x1.s.size : Int)) ∧
   (0 ≤ x55 ∧ x55 < (r15.1.length : Int)) ∧
   if w64 (bt x1.s x54) < ix r15.1 x55 then
    trellisref25_Reader_char_j2 x1 x54 x55 true o1
   else
    (0 ≤ w64 (x55 + 1) ∧ w64 (x55 + 1) < (r15.1.length : Int)) ∧
    trellisref25_Reader_char_j2 x1 x54 x55 (decide (w64 (bt x1.s x54) > ix r15.1 (w64 (x55 + 1)))) o1
 else
  o1 = .inr ((x54, x1))
def trellisref25_Reader_char (x1 : trellisref25_Reader) (x10 : Int) (r : Int × trellisref25_Reader) : Prop :=
 (0 ≤ x10 ∧ x10 < (x1.s.size : Int)) ∧
 ∃ r15 : (List Int) × Bool, (trellisref25_Ranges (bt x1.s x10) r15) ∧
 if r15.2 = true then
  Rounds (fun (s : Int × Int) o => trellisref25_Reader_char_b1 r15 x1 s.1 s.2 o) (w64 (x10 + 1), 0) r
 else
  ∃ r113 : Int × trellisref25_Reader, (trellisref25_Reader_stop x1 250 x10 r113) ∧
  r = (r113.1, r113.2)
def trellisref25_Valid_b1 (x1 : ByteArray) (x20 : Int) (x21 : ByteArray) (x22 : List api_JNode) (x27 : Int) (x28 : Int) (o1 : Sum (Int × ByteArray × (List api_JNode) × Int × Int) Bool) : Prop :=
 if x20 < (x1.size : Int) then
  if x27 = 0 then
   ∃ r49 : Int × trellisref25_Reader, (trellisref25_Reader_char (⟨x21, x22, x27, x28⟩ : trellisref25_Reader) x20 r49) ∧
   o1 = .inl (r49.1, r49.2.s, r49.2.l, r49.2.e, r49.2.at_)
  else
   o1 = .inr ((x27 == 0))
 else
  o1 = .inr ((x27 == 0))
def trellisref25_Valid (x1 : ByteArray) (r : Bool) : Prop :=
 Rounds (fun (s : Int × ByteArray × (List api_JNode) × Int × Int) o => trellisref25_Valid_b1 x1 s.1 s.2.1 s.2.2.1 s.2.2.2.1 s.2.2.2.2 o) (0, x1, ([] : List api_JNode), 0, 0) r
def trellisref25_Reader_has_b1 (x11 : ByteArray) (x10 : Int) (x1 : trellisref25_Reader) (x18 : Int) (o1 : Sum Int (Bool × trellisref25_Reader)) : Prop :=
 if x18 < (x11.size : Int) then
  (0 ≤ x18 ∧ x18 < (x11.size : Int)) ∧
  (0 ≤ x10 ∧ x10 < (x1.s.size : Int)) ∧
  if bt x11 x18 = bt x1.s x10 then
   o1 = .inr ((true, x1))
  else
   o1 = .inl (w64 (x18 + 1))
 else
  o1 = .inr ((false, x1))
def trellisref25_Reader_has (x1 : trellisref25_Reader) (x10 : Int) (x11 : ByteArray) (r : Bool × trellisref25_Reader) : Prop :=
 if x10 ≥ (x1.s.size : Int) then
  r = (false, x1)
 else
  Rounds (fun (s : Int) o => trellisref25_Reader_has_b1 x11 x10 x1 s o) 0 r
def trellisref25_Reader_need (x1 : trellisref25_Reader) (x10 : Int) (x11 : ByteArray) (r : Int × trellisref25_Reader) : Prop :=
 if x1.e = 0 then
  ∃ r16 : Bool × trellisref25_Reader, (trellisref25_Reader_has x1 x10 x11 r16) ∧
  if r16.1 = true then
   r = (w64 (x10 + 1), r16.2)
  else
   ∃ r30 : Int × trellisref25_Reader, (trellisref25_Reader_stop r16.2 250 x10 r30) ∧
   r = (r30.1, r30.2)
 else
  r = (x10, x1)
def trellisref25_Reader_skip_b1 (x11 : ByteArray) (x28 : Int) (x29 : ByteArray) (x30 : List api_JNode) (x35 : Int) (x36 : Int) (o1 : Sum (Int × ByteArray × (List api_JNode) × Int × Int) (Int × trellisref25_Reader)) : Prop :=
 if x35 = 0 then
  ∃ r56 : Bool × trellisref25_Reader, (trellisref25_Reader_has (⟨x29, x30, x35, x36⟩ : trellisref25_Reader) x28 x11 r56) ∧
  if r56.1 = true then
   o1 = .inl (w64 (x28 + 1), r56.2.s, r56.2.l, r56.2.e, r56.2.at_)
  else
   o1 = .inr ((x28, r56.2))
 else
  o1 = .inr ((x28, (⟨x29, x30, x35, x36⟩ : trellisref25_Reader)))
def trellisref25_Reader_skip (x1 : trellisref25_Reader) (x10 : Int) (x11 : ByteArray) (r : Int × trellisref25_Reader) : Prop :=
 Rounds (fun (s : Int × ByteArray × (List api_JNode) × Int × Int) o => trellisref25_Reader_skip_b1 x11 s.1 s.2.1 s.2.2.1 s.2.2.2.1 s.2.2.2.2 o) (x10, x1.s, x1.l, x1.e, x1.at_) r
def trellisref25_Reader_number_j6 (r167 : Bool × trellisref25_Reader) (x179 : Int) (r : Int × trellisref25_Reader) : Prop :=
 ∃ r183 : Int × trellisref25_Reader, (trellisref25_Reader_need r167.2 x179 (⟨#[48, 49, 50, 51, 52, 53, 54, 55, 56, 57]⟩ : ByteArray) r183) ∧
 ∃ r196 : Int × trellisref25_Reader, (trellisref25_Reader_skip r183.2 r183.1 (⟨#[48, 49, 50, 51, 52, 53, 54, 55, 56, 57]⟩ : ByteArray) r196) ∧
 r = (r196.1, r196.2)
def trellisref25_Reader_number_j5 (x130 : Int) (x154 : Bool) (x155 : ByteArray) (x156 : List api_JNode) (x161 : Int) (x162 : Int) (r : Int × trellisref25_Reader) : Prop :=
 if x154 = true then
  ∃ r167 : Bool × trellisref25_Reader, (trellisref25_Reader_has (⟨x155, x156, x161, x162⟩ : trellisref25_Reader) (w64 (x130 + 1)) (⟨#[43, 45]⟩ : ByteArray) r167) ∧
  if r167.1 = true then
   trellisref25_Reader_number_j6 r167 (w64 ((w64 (x130 + 1)) + 1)) r
  else
   trellisref25_Reader_number_j6 r167 (w64 (x130 + 1)) r
 else
  r = (x130, (⟨x155, x156, x161, x162⟩ : trellisref25_Reader))
def trellisref25_Reader_number_j4 (x130 : Int) (x131 : ByteArray) (x132 : List api_JNode) (x137 : Int) (x138 : Int) (r : Int × trellisref25_Reader) : Prop :=
 if x137 = 0 then
  ∃ r210 : Bool × trellisref25_Reader, (trellisref25_Reader_has (⟨x131, x132, x137, x138⟩ : trellisref25_Reader) x130 (⟨#[101, 69]⟩ : ByteArray) r210) ∧
  trellisref25_Reader_number_j5 x130 r210.1 r210.2.s r210.2.l r210.2.e r210.2.at_ r
 else
  trellisref25_Reader_number_j5 x130 false x131 x132 x137 x138 r
def trellisref25_Reader_number_j3 (x69 : Int) (x93 : Bool) (x94 : ByteArray) (x95 : List api_JNode) (x100 : Int) (x101 : Int) (r : Int × trellisref25_Reader) : Prop :=
 if x93 = true then
  ∃ r223 : Int × trellisref25_Reader, (trellisref25_Reader_need (⟨x94, x95, x100, x101⟩ : trellisref25_Reader) (w64 (x69 + 1)) (⟨#[48, 49, 50, 51, 52, 53, 54, 55, 56, 57]⟩ : ByteArray) r223) ∧
  ∃ r236 : Int × trellisref25_Reader, (trellisref25_Reader_skip r223.2 r223.1 (⟨#[48, 49, 50, 51, 52, 53, 54, 55, 56, 57]⟩ : ByteArray) r236) ∧
  trellisref25_Reader_number_j4 r236.1 r236.2.s r236.2.l r236.2.e r236.2.at_ r
 else
  trellisref25_Reader_number_j4 x69 x94 x95 x100 x101 r
def trellisref25_Reader_number_j2 (x69 : Int) (x70 : ByteArray) (x71 : List api_JNode) (x76 : Int) (x77 : Int) (r : Int × trellisref25_Reader) : Prop :=
 if x76 = 0 then
  ∃ r250 : Bool × trellisref25_Reader, (trellisref25_Reader_has (⟨x70, x71, x76, x77⟩ : trellisref25_Reader) x69 (⟨#[46]⟩ : ByteArray) r250) ∧
  trellisref25_Reader_number_j3 x69 r250.1 r250.2.s r250.2.l r250.2.e r250.2.at_ r
 else
  trellisref25_Reader_number_j3 x69 false x70 x71 x76 x77 r
def trellisref25_Reader_number_j1 (r14 : Bool × trellisref25_Reader) (x26 : Int) (r : Int × trellisref25_Reader) : Prop :=
 ∃ r30 : Bool × trellisref25_Reader, (trellisref25_Reader_has r14.2 x26 (⟨#[48]⟩ : ByteArray) r30) ∧
 if r30.1 = true then
  trellisref25_Reader_number_j2 (w64 (x26 + 1)) r30.2.s r30.2.l r30.2.e r30.2.at_ r
 else
  ∃ r263 : Int × trellisref25_Reader, (trellisref25_Reader_need r30.2 x26 (⟨#[48, 49, 50, 51, 52, 53, 54, 55, 56, 57]⟩ : ByteArray) r263) ∧
  ∃ r276 : Int × trellisref25_Reader, (trellisref25_Reader_skip r263.2 r263.1 (⟨#[48, 49, 50, 51, 52, 53, 54, 55, 56, 57]⟩ : ByteArray) r276) ∧
  trellisref25_Reader_number_j2 r276.1 r276.2.s r276.2.l r276.2.e r276.2.at_ r
def trellisref25_Reader_number (x1 : trellisref25_Reader) (x10 : Int) (r : Int × trellisref25_Reader) : Prop :=
 ∃ r14 : Bool × trellisref25_Reader, (trellisref25_Reader_has x1 x10 (⟨#[45]⟩ : ByteArray) r14) ∧
 if r14.1 = true then
  trellisref25_Reader_number_j1 r14 (w64 (x10 + 1)) r
 else
  trellisref25_Reader_number_j1 r14 x10 r
def trellisref25_IsNumber (x1 : ByteArray) (r : Bool) : Prop :=
 ∃ r8 : Int × trellisref25_Reader, (trellisref25_Reader_number (⟨x1, ([] : List api_JNode), 0, 0⟩ : trellisref25_Reader) 0 r8) ∧
 if r8.2.e = 0 then
  r = (r8.1 == (x1.size : Int))
 else
  r = false
def trellisref25_alone_j3 (x1 : api_JNode) (x32 : Bool) (r : Bool) : Prop :=
 if x32 = true then
  r = false
 else
  if x1.kind = 4 then
   ∃ r38 : Bool, (trellisref25_IsNumber x1.text r38) ∧
   r = r38
  else
   if x1.kind = 5 then
    r = true
   else
    r = (seq x1.text (⟨#[]⟩ : ByteArray))
def trellisref25_alone_j2 (x1 : api_JNode) (x27 : Bool) (r : Bool) : Prop :=
 if x1.kind < 1 then
  trellisref25_alone_j3 x1 true r
 else
  if x1.kind > 7 then
   trellisref25_alone_j3 x1 true r
  else
   if x27 = true then
    trellisref25_alone_j3 x1 false r
   else
    trellisref25_alone_j3 x1 (x1.kids != 0) r
def trellisref25_alone_j1 (x1 : api_JNode) (x23 : Bool) (r : Bool) : Prop :=
 if x23 = true then
  r = false
 else
  if x1.kind = 6 then
   trellisref25_alone_j2 x1 true r
  else
   trellisref25_alone_j2 x1 (x1.kind == 7) r
def trellisref25_alone (x1 : api_JNode) (r : Bool) : Prop :=
 ∃ r51 : Bool, (trellisref25_Valid x1.key r51) ∧
 if r51 = true then
  ∃ r60 : Bool, (trellisref25_Valid x1.text r60) ∧
  if r60 = true then
   trellisref25_alone_j1 x1 (decide (x1.kids < 0)) r
  else
   trellisref25_alone_j1 x1 true r
 else
  trellisref25_alone_j1 x1 true r
def trellisref25_kids_b1 (x6 : Int) (x1 : List api_JNode) (x29 : List Int) (x34 : Int) (x35 : Int) (o1 : Sum ((List Int) × Int × Int) (List Int)) : Prop :=
 (0 ≤ x6 ∧ x6 < (x1.length : Int)) ∧
 if x35 < (ix x1 x6).kids then
  ∃ x65 : List Int, (x65 = x29 ++ ([x34] : List Int)) ∧
  (x65.length * 8 ≤ 211106232532992) ∧
  ∃ r71 : Int, (trellisref25_Behind x1 x34 r71) ∧
  o1 = .inl (x65, r71, w64 (x35 + 1))
 else
  o1 = .inr (x29)
def trellisref25_kids (x1 : List api_JNode) (x6 : Int) (r : List Int) : Prop :=
 Rounds (fun (s : (List Int) × Int × Int) o => trellisref25_kids_b1 x6 x1 s.1 s.2.1 s.2.2 o) (([] : List Int), w64 (x6 + 1), 0) r
def trellisref25_inside_b5 (x69 : Int) (x6 : Int) (x1 : List api_JNode) (r21 : List Int) (rc_trellisref25_inside : (List api_JNode) → Int → Int → Bool → Prop) (x7 : Int) (x215 : Int) (o2 : Sum Int (Sum Int Bool)) : Prop :=
 if x215 < x69 then
  (0 ≤ x6 ∧ x6 < (x1.length : Int)) ∧
  if (ix x1 x6).kind = 7 then
   (0 ≤ x215 ∧ x215 < (r21.length : Int)) ∧
   (0 ≤ ix r21 x215 ∧ ix r21 x215 < (x1.length : Int)) ∧
   (0 ≤ x69 ∧ x69 < (r21.length : Int)) ∧
   (0 ≤ ix r21 x69 ∧ ix r21 x69 < (x1.length : Int)) ∧
   if (ix x1 (ix r21 x215)).key = (ix x1 (ix r21 x69)).key then
    o2 = .inr (.inr (false))
   else
    o2 = .inl (w64 (x215 + 1))
  else
   o2 = .inl (w64 (x215 + 1))
 else
  (0 ≤ x69 ∧ x69 < (r21.length : Int)) ∧
  ∃ r268 : Bool, (rc_trellisref25_inside x1 (ix r21 x69) (w64 (x7 + 1)) r268) ∧
  if r268 = true then
   o2 = .inr (.inl (w64 (x69 + 1)))
  else
   o2 = .inr (.inr (false))
def trellisref25_inside_j4 (x69 : Int) (x6 : Int) (x1 : List api_JNode) (r21 : List Int) (rc_trellisref25_inside : (List api_JNode) → Int → Int → Bool → Prop) (x7 : Int) (x183 : Bool) (o1 : Sum Int Bool) : Prop :=
 if x183 = true then
  o1 = .inr (false)
 else
  Rounds (fun (s : Int) o => trellisref25_inside_b5 x69 x6 x1 r21 rc_trellisref25_inside x7 s o) 0 o1
def trellisref25_inside_b3 (r21 : List Int) (x6 : Int) (x1 : List api_JNode) (rc_trellisref25_inside : (List api_JNode) → Int → Int → Bool → Prop) (x7 : Int) (x69 : Int) (o1 : Sum Int Bool) : Prop :=
 if x69 < (r21.length : Int) then
  (0 ≤ x6 ∧ x6 < (x1.length : Int)) ∧
  if (ix x1 x6).kind = 6 then
   (0 ≤ x69 ∧ x69 < (r21.length : Int)) ∧
   (0 ≤ ix r21 x69 ∧ ix r21 x69 < (x1.length : Int)) ∧
   trellisref25_inside_j4 x69 x6 x1 r21 rc_trellisref25_inside x7 (!(seq ((ix x1 (ix r21 x69)).key) (⟨#[]⟩ : ByteArray))) o1
  else
   trellisref25_inside_j4 x69 x6 x1 r21 rc_trellisref25_inside x7 false o1
 else
  o1 = .inr (true)
def trellisref25_inside_j2 (x1 : List api_JNode) (x6 : Int) (rc_trellisref25_inside : (List api_JNode) → Int → Int → Bool → Prop) (x7 : Int) (x16 : Bool) (r : Bool) : Prop :=
 if x16 = true then
  r = false
 else
  ∃ r21 : List Int, (trellisref25_kids x1 x6 r21) ∧
  Rounds (fun (s : Int) o => trellisref25_inside_b3 r21 x6 x1 rc_trellisref25_inside x7 s o) 0 r
def trellisref25_inside_j1 (x1 : List api_JNode) (x6 : Int) (rc_trellisref25_inside : (List api_JNode) → Int → Int → Bool → Prop) (x7 : Int) (x13 : Bool) (r : Bool) : Prop :=
 if x13 = true then
  trellisref25_inside_j2 x1 x6 rc_trellisref25_inside x7 (decide (x7 ≥ 64)) r
 else
  trellisref25_inside_j2 x1 x6 rc_trellisref25_inside x7 false r
def trellisref25_inside_body (rc_trellisref25_inside : (List api_JNode) → Int → Int → Bool → Prop) (x1 : List api_JNode) (x6 : Int) (x7 : Int) (r : Bool) : Prop :=
 (0 ≤ x6 ∧ x6 < (x1.length : Int)) ∧
 if (ix x1 x6).kind = 6 then
  trellisref25_inside_j1 x1 x6 rc_trellisref25_inside x7 true r
 else
  trellisref25_inside_j1 x1 x6 rc_trellisref25_inside x7 (((ix x1 x6).kind) == 7) r
def trellisref25_inside_n : Nat → (List api_JNode) → Int → Int → Bool → Prop
 | 0 => fun _ _ _ _ => False
 | n + 1 => trellisref25_inside_body (trellisref25_inside_n n)
def trellisref25_inside (x1 : List api_JNode) (x6 : Int) (x7 : Int) (r : Bool) : Prop := ∃ n, trellisref25_inside_n n x1 x6 x7 r
def trellisref25_Shaped_b2 (x1 : List api_JNode) (x42 : Int) (o1 : Sum Int Bool) : Prop :=
 if x42 < (x1.length : Int) then
  (0 ≤ x42 ∧ x42 < (x1.length : Int)) ∧
  ∃ r69 : Bool, (trellisref25_alone (ix x1 x42) r69) ∧
  if r69 = true then
   o1 = .inl (w64 (x42 + 1))
  else
   o1 = .inr (false)
 else
  ∃ r78 : Bool, (trellisref25_inside x1 0 0 r78) ∧
  o1 = .inr (r78)
def trellisref25_Shaped_j1 (x1 : List api_JNode) (x19 : Bool) (r : Bool) : Prop :=
 if x19 = true then
  r = false
 else
  Rounds (fun (s : Int) o => trellisref25_Shaped_b2 x1 s o) 0 r
def trellisref25_Shaped (x1 : List api_JNode) (r : Bool) : Prop :=
 if (x1.length : Int) = 0 then
  trellisref25_Shaped_j1 x1 true r
 else
  ∃ r87 : Int, (trellisref25_Behind x1 0 r87) ∧
  if r87 = (x1.length : Int) then
   (0 ≤ (0 : Int) ∧ (0 : Int) < (x1.length : Int)) ∧
   trellisref25_Shaped_j1 x1 (!(seq ((ix x1 0).key) (⟨#[]⟩ : ByteArray))) r
  else
   trellisref25_Shaped_j1 x1 true r
def trellisref25_Int_j4 (x43 : Int) (x29 : ByteArray) (x42 : Int) (x60 : Bool) (o1 : Sum (Int × Int) (Int × Bool)) : Prop :=
 if x60 = true then
  o1 = .inr ((0, false))
 else
  (0 ≤ x43 ∧ x43 < (x29.size : Int)) ∧
  if x42 < w64 (Int.tdiv (w64 ((-9223372036854775808) + (w64 (IntKind.u8.wrap ((bt x29 x43) - 48))))) 10) then
   o1 = .inr ((0, false))
  else
   o1 = .inl (w64 ((w64 (10 * x42)) - (w64 (IntKind.u8.wrap ((bt x29 x43) - 48)))), w64 (x43 + 1))
def trellisref25_Int_b3 (x29 : ByteArray) (x1 : List api_JNode) (x6 : Int) (x42 : Int) (x43 : Int) (o1 : Sum (Int × Int) (Int × Bool)) : Prop :=
 if x43 < (x29.size : Int) then
  (0 ≤ x43 ∧ x43 < (x29.size : Int)) ∧
  if bt x29 x43 < 48 then
   trellisref25_Int_j4 x43 x29 x42 true o1
  else
   trellisref25_Int_j4 x43 x29 x42 (decide (bt x29 x43 > 57)) o1
 else
  if bt ((ix x1 x6).text) 0 = 45 then
   o1 = .inr ((x42, true))
  else
   if x42 = -9223372036854775808 then
    o1 = .inr ((0, false))
   else
    o1 = .inr ((w64 (0 - x42), true))
def trellisref25_Int_j2 (x1 : List api_JNode) (x6 : Int) (x29 : ByteArray) (r : Int × Bool) : Prop :=
 Rounds (fun (s : Int × Int) o => trellisref25_Int_b3 x29 x1 x6 s.1 s.2 o) (0, 0) r
def trellisref25_Int_j1 (x6 : Int) (x1 : List api_JNode) (x21 : Bool) (r : Int × Bool) : Prop :=
 if x21 = true then
  r = (0, false)
 else
  (0 ≤ x6 ∧ x6 < (x1.length : Int)) ∧
  (0 ≤ (0 : Int) ∧ (0 : Int) < (((ix x1 x6).text).size : Int)) ∧
  if bt ((ix x1 x6).text) 0 = 45 then
   (0 ≤ (1 : Int) ∧ (1 : Int) ≤ (((ix x1 x6).text).size : Int) ∧ (((ix x1 x6).text).size : Int) ≤ (((ix x1 x6).text).size : Int)) ∧
   trellisref25_Int_j2 x1 x6 (((ix x1 x6).text).extract (1 : Int).toNat ((((ix x1 x6).text).size : Int) : Int).toNat) r
  else
   trellisref25_Int_j2 x1 x6 ((ix x1 x6).text) r
def trellisref25_Int (x1 : List api_JNode) (x6 : Int) (r : Int × Bool) : Prop :=
 if x6 < 0 then
  trellisref25_Int_j1 x6 x1 true r
 else
  if x6 ≥ (x1.length : Int) then
   trellisref25_Int_j1 x6 x1 true r
  else
   ∃ r74 : Bool, (trellisref25_Shaped x1 r74) ∧
   if r74 = true then
    (0 ≤ x6 ∧ x6 < (x1.length : Int)) ∧
    trellisref25_Int_j1 x6 x1 (((ix x1 x6).kind) != 4) r
   else
    trellisref25_Int_j1 x6 x1 true r
def trellisref25_Member_b2 (r27 : List Int) (x1 : List api_JNode) (x7 : ByteArray) (x43 : Int) (o1 : Sum Int Int) : Prop :=
 if x43 < (r27.length : Int) then
  (0 ≤ x43 ∧ x43 < (r27.length : Int)) ∧
  (0 ≤ ix r27 x43 ∧ ix r27 x43 < (x1.length : Int)) ∧
  if (ix x1 (ix r27 x43)).key = x7 then
   o1 = .inr (ix r27 x43)
  else
   o1 = .inl (w64 (x43 + 1))
 else
  o1 = .inr (-1)
def trellisref25_Member_j1 (x1 : List api_JNode) (x6 : Int) (x7 : ByteArray) (x22 : Bool) (r : Int) : Prop :=
 if x22 = true then
  r = -1
 else
  ∃ r27 : List Int, (trellisref25_kids x1 x6 r27) ∧
  Rounds (fun (s : Int) o => trellisref25_Member_b2 r27 x1 x7 s o) 0 r
def trellisref25_Member (x1 : List api_JNode) (x6 : Int) (x7 : ByteArray) (r : Int) : Prop :=
 if x6 < 0 then
  trellisref25_Member_j1 x1 x6 x7 true r
 else
  if x6 ≥ (x1.length : Int) then
   trellisref25_Member_j1 x1 x6 x7 true r
  else
   ∃ r59 : Bool, (trellisref25_Shaped x1 r59) ∧
   if r59 = true then
    (0 ≤ x6 ∧ x6 < (x1.length : Int)) ∧
    trellisref25_Member_j1 x1 x6 x7 (((ix x1 x6).kind) != 7) r
   else
    trellisref25_Member_j1 x1 x6 x7 true r
def trellislaw25_same_b1 (x1 : List api_JNode) (x6 : List api_JNode) (x23 : Int) (o1 : Sum Int Bool) : Prop :=
 if x23 < (x1.length : Int) then
  (0 ≤ x23 ∧ x23 < (x1.length : Int)) ∧
  (0 ≤ x23 ∧ x23 < (x6.length : Int)) ∧
  if ix x1 x23 = ix x6 x23 then
   o1 = .inl (w64 (x23 + 1))
  else
   o1 = .inr (false)
 else
  o1 = .inr (true)
def trellislaw25_same (x1 : List api_JNode) (x6 : List api_JNode) (r : Bool) : Prop :=
 if (x1.length : Int) = (x6.length : Int) then
  Rounds (fun (s : Int) o => trellislaw25_same_b1 x1 x6 s o) 0 r
 else
  r = false
def trellislaw25_spared (x1 : List api_JNode) (x6 : List api_JNode) (r : Bool) : Prop :=
 (0 ≤ (0 : Int) ∧ (0 : Int) ≤ (x6.length : Int) ∧ (x6.length : Int) ≤ (x1.length : Int)) ∧
 ∃ r16 : Bool, (trellislaw25_same (x1.take ((x6.length : Int) : Int).toNat) x6 r16) ∧
 if r16 = true then
  (0 ≤ (x6.length : Int) ∧ (x6.length : Int) < (x1.length : Int)) ∧
  if ix x1 (x6.length : Int) = (⟨0, (⟨#[109, 97, 114, 107]⟩ : ByteArray), (⟨#[]⟩ : ByteArray), 0⟩ : api_JNode) then
   (0 ≤ w64 ((x6.length : Int) + 1) ∧ w64 ((x6.length : Int) + 1) < (x1.length : Int)) ∧
   r = decide (ix x1 (w64 ((x6.length : Int) + 1)) = (⟨0, (⟨#[109, 97, 114, 107]⟩ : ByteArray), (⟨#[]⟩ : ByteArray), 0⟩ : api_JNode))
  else
   r = false
 else
  r = false
def trellislaw25_over_b1 (x20 : List api_JNode) (x22 : Int) (o1 : Sum ((List api_JNode) × Int) (List api_JNode)) : Prop :=
 if x22 < (x20.length : Int) then
  (0 ≤ w64 ((x20.length : Int) - 1) ∧ w64 ((x20.length : Int) - 1) < (x20.length : Int)) ∧
  (0 ≤ x22 ∧ x22 < (x20.length : Int)) ∧
  ∃ x37 : List api_JNode, (x37 = x20.set (x22 : Int).toNat ({ (ix x20 x22) with key := (ix x20 (w64 ((x20.length : Int) - 1))).key })) ∧
  (0 ≤ w64 ((x37.length : Int) - 1) ∧ w64 ((x37.length : Int) - 1) < (x37.length : Int)) ∧
  (0 ≤ x22 ∧ x22 < (x37.length : Int)) ∧
  ∃ x42 : List api_JNode, (x42 = x37.set (x22 : Int).toNat ({ (ix x37 x22) with text := (ix x37 (w64 ((x37.length : Int) - 1))).text })) ∧
  o1 = .inl (x42, w64 (x22 + 1))
 else
  o1 = .inr (x20)
def trellislaw25_over (x1 : List api_JNode) (r : List api_JNode) : Prop :=
 Rounds (fun (s : (List api_JNode) × Int) o => trellislaw25_over_b1 s.1 s.2 o) (x1, 0) r
def trellislaw25_JsonAsks_j7 (r569 : List api_JNode) (x666 : Int) (r578 : List api_JNode) (x103 : ByteArray) (x709 : Bool) (o2 : Sum Int (Sum Int Bool)) : Prop :=
 if x709 = true then
  ∃ r714 : Int × Bool, (json_Int r569 x666 r714) ∧
  ∃ r722 : Int × Bool, (trellisref25_Int r578 x666 r722) ∧
  ∃ r730 : Int, (json_Member r569 x666 x103 r730) ∧
  ∃ r738 : Int, (trellisref25_Member r578 x666 x103 r738) ∧
  if r730 = r738 then
   if r714.1 = r722.1 then
    if (r714.2 != r722.2) = true then
     o2 = .inr (.inr (false))
    else
     o2 = .inl (w64 (x666 + 1))
   else
    o2 = .inr (.inr (false))
  else
   o2 = .inr (.inr (false))
 else
  o2 = .inr (.inr (true))
def trellislaw25_JsonAsks_b6 (r569 : List api_JNode) (r578 : List api_JNode) (x103 : ByteArray) (x666 : Int) (o2 : Sum Int (Sum Int Bool)) : Prop :=
 if x666 < (r569.length : Int) then
  trellislaw25_JsonAsks_j7 r569 x666 r578 x103 (decide (x666 < 20)) o2
 else
  trellislaw25_JsonAsks_j7 r569 x666 r578 x103 false o2
def trellislaw25_JsonAsks_j5 (r569 : List api_JNode) (r578 : List api_JNode) (x103 : ByteArray) (x623 : Bool) (o1 : Sum Int Bool) : Prop :=
 if x623 = true then
  o1 = .inr (false)
 else
  Rounds (fun (s : Int) o => trellislaw25_JsonAsks_b6 r569 r578 x103 s o) 0 o1
def trellislaw25_JsonAsks_j4 (x45 : List api_JNode) (x325 : Int) (x103 : ByteArray) (x6 : Int) (x7 : ByteArray) (x548 : Bool) (o1 : Sum Int Bool) : Prop :=
 if x548 = true then
  ∃ r553 : Int, (json_Member x45 x325 x103 r553) ∧
  ∃ r561 : Int × Bool, (json_Int x45 x325 r561) ∧
  o1 = .inl (w64 (x325 + 1))
 else
  ∃ r569 : List api_JNode, (trellislaw25_over x45 r569) ∧
  ∃ r578 : List api_JNode, (trellislaw25_twin r569 r578) ∧
  ∃ r591 : Int × Bool, (json_Int r569 x6 r591) ∧
  ∃ r599 : Int × Bool, (trellisref25_Int r578 x6 r599) ∧
  ∃ r750 : Int, (json_Member r569 x6 x7 r750) ∧
  ∃ r758 : Int, (trellisref25_Member r578 x6 x7 r758) ∧
  if r750 = r758 then
   if r591.1 = r599.1 then
    trellislaw25_JsonAsks_j5 r569 r578 x103 (r591.2 != r599.2) o1
   else
    trellislaw25_JsonAsks_j5 r569 r578 x103 true o1
  else
   trellislaw25_JsonAsks_j5 r569 r578 x103 true o1
def trellislaw25_JsonAsks_b3 (x45 : List api_JNode) (x103 : ByteArray) (x6 : Int) (x7 : ByteArray) (x325 : Int) (o1 : Sum Int Bool) : Prop :=
 if x325 < (x45.length : Int) then
  trellislaw25_JsonAsks_j4 x45 x325 x103 x6 x7 (decide (x325 < 20)) o1
 else
  trellislaw25_JsonAsks_j4 x45 x325 x103 x6 x7 false o1
def trellislaw25_JsonAsks_j2 (x45 : List api_JNode) (x6 : Int) (x7 : ByteArray) (x103 : ByteArray) (r : Bool) : Prop :=
 Rounds (fun (s : Int) o => trellislaw25_JsonAsks_b3 x45 x103 x6 x7 s o) 0 r
def trellislaw25_JsonAsks_j1 (x1 : List api_JNode) (x45 : List api_JNode) (x6 : Int) (x7 : ByteArray) (x97 : Bool) (r : Bool) : Prop :=
 if x97 = true then
  r = false
 else
  if (x1.length : Int) > 0 then
   (0 ≤ w64 ((x1.length : Int) - 1) ∧ w64 ((x1.length : Int) - 1) < (x1.length : Int)) ∧
   trellislaw25_JsonAsks_j2 x45 x6 x7 ((ix x1 (w64 ((x1.length : Int) - 1))).key) r
  else
   trellislaw25_JsonAsks_j2 x45 x6 x7 (⟨#[]⟩ : ByteArray) r
def trellislaw25_JsonAsks (x1 : List api_JNode) (x6 : Int) (x7 : ByteArray) (r : Bool) : Prop :=
 ∃ r11 : Bool, (trellisref25_Beyond x1 r11) ∧
 if r11 = true then
  r = true
 else
  ∃ r20 : List api_JNode, (trellislaw25_twin x1 r20) ∧
  ∃ r33 : List api_JNode, (trellislaw25_roomy x1 r33) ∧
  (0 ≤ (0 : Int) ∧ (0 : Int) ≤ (x1.length : Int) ∧ (x1.length : Int) ≤ (r33.length : Int)) ∧
  ∃ x45 : List api_JNode, (x45 = r33.take ((x1.length : Int) : Int).toNat) ∧
  ∃ r51 : Int, (json_Member x45 x6 x7 r51) ∧
  ∃ r59 : Int × Bool, (json_Int x45 x6 r59) ∧
  ∃ r68 : Int × Bool, (trellisref25_Int r20 x6 r68) ∧
  ∃ r771 : Int, (trellisref25_Member r20 x6 x7 r771) ∧
  if r51 = r771 then
   if r59.1 = r68.1 then
    if (r59.2 != r68.2) = true then
     trellislaw25_JsonAsks_j1 x1 x45 x6 x7 true r
    else
     ∃ r783 : Bool, (trellislaw25_spared r33 r20 r783) ∧
     trellislaw25_JsonAsks_j1 x1 x45 x6 x7 (!r783) r
   else
    trellislaw25_JsonAsks_j1 x1 x45 x6 x7 true r
  else
   trellislaw25_JsonAsks_j1 x1 x45 x6 x7 true r
def strings_Builder_copyCheck (x1 : strings_Builder) (r : strings_Builder) : Prop :=
 if x1.addr = true then
  r = x1
 else
  r = (⟨true, x1.buf⟩ : strings_Builder)
def strings_Builder_WriteByte (x1 : strings_Builder) (x9 : Int) (r : strings_Builder) : Prop :=
 ∃ r13 : strings_Builder, (strings_Builder_copyCheck x1 r13) ∧
 ∃ x24 : List Int, (x24 = x1.buf ++ ([x9] : List Int)) ∧
 (x24.length * 1 ≤ 211106232532992) ∧
 r = (⟨r13.addr, x24⟩ : strings_Builder)
def strings_Builder_WriteString (x1 : strings_Builder) (x9 : ByteArray) (r : Int × strings_Builder) : Prop :=
 ∃ r13 : strings_Builder, (strings_Builder_copyCheck x1 r13) ∧
 ∃ x21 : List Int, (x21 = x1.buf ++ bsOf x9) ∧
 (x21.length * 1 ≤ 211106232532992) ∧
 r = ((x9.size : Int), (⟨r13.addr, x21⟩ : strings_Builder))
def json_quote_b1 (x9 : ByteArray) (x122 : Int) (x123 : Bool) (x124 : List Int) (o1 : Sum (Int × Bool × (List Int)) strings_Builder) : Prop :=
 if x122 < (x9.size : Int) then
  (0 ≤ x122 ∧ x122 < (x9.size : Int)) ∧
  (0 ≤ bt x9 x122 ∧ bt x9 x122 < 256) ∧
  if ix tb_0 (bt x9 x122) = 0 then
   if bt x9 x122 < 32 then
    ∃ r235 : Int × strings_Builder, (strings_Builder_WriteString (⟨x123, x124⟩ : strings_Builder) (⟨#[92, 117, 48, 48]⟩ : ByteArray) r235) ∧
    (0 ≤ IntKind.u8.wrap (Int.tdiv (bt x9 x122) 16) ∧ IntKind.u8.wrap (Int.tdiv (bt x9 x122) 16) < ((⟨#[48, 49, 50, 51, 52, 53, 54, 55, 56, 57, 97, 98, 99, 100, 101, 102]⟩ : ByteArray).size : Int)) ∧
    ∃ r249 : strings_Builder, (strings_Builder_WriteByte r235.2 (bt (⟨#[48, 49, 50, 51, 52, 53, 54, 55, 56, 57, 97, 98, 99, 100, 101, 102]⟩ : ByteArray) (IntKind.u8.wrap (Int.tdiv (bt x9 x122) 16))) r249) ∧
    (0 ≤ Int.tmod (bt x9 x122) 16 ∧ Int.tmod (bt x9 x122) 16 < ((⟨#[48, 49, 50, 51, 52, 53, 54, 55, 56, 57, 97, 98, 99, 100, 101, 102]⟩ : ByteArray).size : Int)) ∧
    ∃ r263 : strings_Builder, (strings_Builder_WriteByte r249 (bt (⟨#[48, 49, 50, 51, 52, 53, 54, 55, 56, 57, 97, 98, 99, 100, 101, 102]⟩ : ByteArray) (Int.tmod (bt x9 x122) 16)) r263) ∧
    o1 = .inl (w64 (x122 + 1), r263.addr, r263.buf)
   else
    ∃ r276 : strings_Builder, (strings_Builder_WriteByte (⟨x123, x124⟩ : strings_Builder) (bt x9 x122) r276) ∧
    o1 = .inl (w64 (x122 + 1), r276.addr, r276.buf)
  else
   ∃ r289 : strings_Builder, (strings_Builder_WriteByte (⟨x123, x124⟩ : strings_Builder) 92 r289) ∧
   ∃ r302 : strings_Builder, (strings_Builder_WriteByte r289 (ix tb_0 (bt x9 x122)) r302) ∧
   o1 = .inl (w64 (x122 + 1), r302.addr, r302.buf)
 else
  ∃ r315 : strings_Builder, (strings_Builder_WriteByte (⟨x123, x124⟩ : strings_Builder) 34 r315) ∧
  o1 = .inr (r315)
def json_quote (x1 : strings_Builder) (x9 : ByteArray) (r : strings_Builder) : Prop :=
 ∃ r13 : strings_Builder, (strings_Builder_WriteByte x1 34 r13) ∧
 Rounds (fun (s : Int × Bool × (List Int)) o => json_quote_b1 x9 s.1 s.2.1 s.2.2 o) (0, r13.addr, r13.buf) r
def json_Print_1_b3 (x2 : List api_JNode) (x9 : Int) (rc_json_Print_1 : Bool → (List api_JNode) → Int → strings_Builder → ((List api_JNode) × Int × strings_Builder) → Prop) (x132 : ByteArray) (x182 : Int) (x183 : Bool) (x184 : List Int) (x189 : List api_JNode) (x196 : Int) (o1 : Sum (Int × Bool × (List Int) × (List api_JNode) × Int) ((List api_JNode) × Int × strings_Builder)) : Prop :=
 if x182 < (ix x2 x9).kids then
  if x182 > 0 then
   ∃ r269 : strings_Builder, (strings_Builder_WriteByte (⟨x183, x184⟩ : strings_Builder) 44 r269) ∧
   ∃ r282 : (List api_JNode) × Int × strings_Builder, (rc_json_Print_1 (((ix x2 x9).kind) == 7) x189 x196 r269 r282) ∧
   o1 = .inl (w64 (x182 + 1), r282.2.2.addr, r282.2.2.buf, r282.1, r282.2.1)
  else
   ∃ r301 : (List api_JNode) × Int × strings_Builder, (rc_json_Print_1 (((ix x2 x9).kind) == 7) x189 x196 (⟨x183, x184⟩ : strings_Builder) r301) ∧
   o1 = .inl (w64 (x182 + 1), r301.2.2.addr, r301.2.2.buf, r301.1, r301.2.1)
 else
  (0 ≤ (1 : Int) ∧ (1 : Int) < (x132.size : Int)) ∧
  ∃ r321 : strings_Builder, (strings_Builder_WriteByte (⟨x183, x184⟩ : strings_Builder) (bt x132 1) r321) ∧
  o1 = .inr ((x189, x196, r321))
def json_Print_1_j2 (x54 : Bool) (x55 : List Int) (x2 : List api_JNode) (x9 : Int) (rc_json_Print_1 : Bool → (List api_JNode) → Int → strings_Builder → ((List api_JNode) × Int × strings_Builder) → Prop) (x132 : ByteArray) (r : (List api_JNode) × Int × strings_Builder) : Prop :=
 (0 ≤ (0 : Int) ∧ (0 : Int) < (x132.size : Int)) ∧
 ∃ r137 : strings_Builder, (strings_Builder_WriteByte (⟨x54, x55⟩ : strings_Builder) (bt x132 0) r137) ∧
 Rounds (fun (s : Int × Bool × (List Int) × (List api_JNode) × Int) o => json_Print_1_b3 x2 x9 rc_json_Print_1 x132 s.1 s.2.1 s.2.2.1 s.2.2.2.1 s.2.2.2.2 o) (0, r137.addr, r137.buf, x2, w64 (x9 + 1)) r
def json_Print_1_j1 (x2 : List api_JNode) (x9 : Int) (rc_json_Print_1 : Bool → (List api_JNode) → Int → strings_Builder → ((List api_JNode) × Int × strings_Builder) → Prop) (x54 : Bool) (x55 : List Int) (r : (List api_JNode) × Int × strings_Builder) : Prop :=
 if (ix x2 x9).kind = 1 then
  ∃ r64 : Int × strings_Builder, (strings_Builder_WriteString (⟨x54, x55⟩ : strings_Builder) (⟨#[110, 117, 108, 108]⟩ : ByteArray) r64) ∧
  r = (x2, w64 (x9 + 1), r64.2)
 else
  if (ix x2 x9).kind = 2 then
   ∃ r78 : Int × strings_Builder, (strings_Builder_WriteString (⟨x54, x55⟩ : strings_Builder) (⟨#[102, 97, 108, 115, 101]⟩ : ByteArray) r78) ∧
   r = (x2, w64 (x9 + 1), r78.2)
  else
   if (ix x2 x9).kind = 3 then
    ∃ r92 : Int × strings_Builder, (strings_Builder_WriteString (⟨x54, x55⟩ : strings_Builder) (⟨#[116, 114, 117, 101]⟩ : ByteArray) r92) ∧
    r = (x2, w64 (x9 + 1), r92.2)
   else
    if (ix x2 x9).kind = 4 then
     ∃ r106 : Int × strings_Builder, (strings_Builder_WriteString (⟨x54, x55⟩ : strings_Builder) ((ix x2 x9).text) r106) ∧
     r = (x2, w64 (x9 + 1), r106.2)
    else
     if (ix x2 x9).kind = 5 then
      ∃ r120 : strings_Builder, (json_quote (⟨x54, x55⟩ : strings_Builder) ((ix x2 x9).text) r120) ∧
      r = (x2, w64 (x9 + 1), r120)
     else
      if (ix x2 x9).kind = 7 then
       json_Print_1_j2 x54 x55 x2 x9 rc_json_Print_1 (⟨#[123, 125]⟩ : ByteArray) r
      else
       json_Print_1_j2 x54 x55 x2 x9 rc_json_Print_1 (⟨#[91, 93]⟩ : ByteArray) r
def json_Print_1_body (rc_json_Print_1 : Bool → (List api_JNode) → Int → strings_Builder → ((List api_JNode) × Int × strings_Builder) → Prop) (x1 : Bool) (x2 : List api_JNode) (x9 : Int) (x12 : strings_Builder) (r : (List api_JNode) × Int × strings_Builder) : Prop :=
 (0 ≤ x9 ∧ x9 < (x2.length : Int)) ∧
 if x1 = true then
  ∃ r334 : strings_Builder, (json_quote x12 ((ix x2 x9).key) r334) ∧
  ∃ r347 : strings_Builder, (strings_Builder_WriteByte r334 58 r347) ∧
  json_Print_1_j1 x2 x9 rc_json_Print_1 r347.addr r347.buf r
 else
  json_Print_1_j1 x2 x9 rc_json_Print_1 x12.addr x12.buf r
def json_Print_1_n : Nat → Bool → (List api_JNode) → Int → strings_Builder → ((List api_JNode) × Int × strings_Builder) → Prop
 | 0 => fun _ _ _ _ _ => False
 | n + 1 => json_Print_1_body (json_Print_1_n n)
def json_Print_1 (x1 : Bool) (x2 : List api_JNode) (x9 : Int) (x12 : strings_Builder) (r : (List api_JNode) × Int × strings_Builder) : Prop := ∃ n, json_Print_1_n n x1 x2 x9 x12 r
def strings_Builder_String (x1 : strings_Builder) (r : ByteArray) : Prop :=
 r = ofBs x1.buf
def json_Print (x1 : List api_JNode) (r : ByteArray × Int) : Prop :=
 ∃ r11 : Bool, (json_Shaped x1 r11) ∧
 if r11 = true then
  ∃ r27 : (List api_JNode) × Int × strings_Builder, (json_Print_1 false x1 0 (⟨false, ([] : List Int)⟩ : strings_Builder) r27) ∧
  ∃ r46 : ByteArray, (strings_Builder_String r27.2.2 r46) ∧
  r = (r46, 0)
 else
  r = ((⟨#[]⟩ : ByteArray), 43)
def trellisref25_Quote_b3 (x1 : ByteArray) (x38 : Int) (x37 : ByteArray) (x88 : ByteArray) (x89 : Int) (o2 : Sum (ByteArray × Int) (Sum (ByteArray × Int) ByteArray)) : Prop :=
 if x89 < 7 then
  (0 ≤ x89 ∧ x89 < ((⟨#[34, 92, 8, 12, 10, 13, 9]⟩ : ByteArray).size : Int)) ∧
  if bt (⟨#[34, 92, 8, 12, 10, 13, 9]⟩ : ByteArray) x89 = bt x1 x38 then
   (0 ≤ x89 ∧ x89 ≤ w64 (x89 + 1) ∧ w64 (x89 + 1) ≤ ((⟨#[34, 92, 98, 102, 110, 114, 116]⟩ : ByteArray).size : Int)) ∧
   ((⟨#[92]⟩ : ByteArray).size + ((⟨#[34, 92, 98, 102, 110, 114, 116]⟩ : ByteArray).extract (x89 : Int).toNat (w64 (x89 + 1) : Int).toNat).size ≤ 9223372036854775807) ∧
   o2 = .inl ((⟨#[92]⟩ : ByteArray) ++ ((⟨#[34, 92, 98, 102, 110, 114, 116]⟩ : ByteArray).extract (x89 : Int).toNat (w64 (x89 + 1) : Int).toNat), w64 (x89 + 1))
  else
   o2 = .inl (x88, w64 (x89 + 1))
 else
  (x37.size + x88.size ≤ 9223372036854775807) ∧
  o2 = .inr (.inl (x37 ++ x88, w64 (x38 + 1)))
def trellisref25_Quote_j2 (x1 : ByteArray) (x38 : Int) (x37 : ByteArray) (x82 : ByteArray) (o1 : Sum (ByteArray × Int) ByteArray) : Prop :=
 Rounds (fun (s : ByteArray × Int) o => trellisref25_Quote_b3 x1 x38 x37 s.1 s.2 o) (x82, 0) o1
def trellisref25_Quote_b1 (x1 : ByteArray) (x37 : ByteArray) (x38 : Int) (o1 : Sum (ByteArray × Int) ByteArray) : Prop :=
 if x38 < (x1.size : Int) then
  (0 ≤ x38 ∧ x38 ≤ w64 (x38 + 1) ∧ w64 (x38 + 1) ≤ (x1.size : Int)) ∧
  (0 ≤ x38 ∧ x38 < (x1.size : Int)) ∧
  if bt x1 x38 < 32 then
   (0 ≤ IntKind.u8.wrap (Int.tdiv (bt x1 x38) 16) ∧ IntKind.u8.wrap (Int.tdiv (bt x1 x38) 16) ≤ IntKind.u8.wrap ((IntKind.u8.wrap (Int.tdiv (bt x1 x38) 16)) + 1) ∧ IntKind.u8.wrap ((IntKind.u8.wrap (Int.tdiv (bt x1 x38) 16)) + 1) ≤ ((⟨#[48, 49, 50, 51, 52, 53, 54, 55, 56, 57, 97, 98, 99, 100, 101, 102, 65, 66, 67, 68, 69, 70]⟩ : ByteArray).size : Int)) ∧
   ((⟨#[92, 117, 48, 48]⟩ : ByteArray).size + ((⟨#[48, 49, 50, 51, 52, 53, 54, 55, 56, 57, 97, 98, 99, 100, 101, 102, 65, 66, 67, 68, 69, 70]⟩ : ByteArray).extract (IntKind.u8.wrap (Int.tdiv (bt x1 x38) 16) : Int).toNat (IntKind.u8.wrap ((IntKind.u8.wrap (Int.tdiv (bt x1 x38) 16)) + 1) : Int).toNat).size ≤ 9223372036854775807) ∧
   (0 ≤ Int.tmod (bt x1 x38) 16 ∧ Int.tmod (bt x1 x38) 16 ≤ IntKind.u8.wrap ((Int.tmod (bt x1 x38) 16) + 1) ∧ IntKind.u8.wrap ((Int.tmod (bt x1 x38) 16) + 1) ≤ ((⟨#[48, 49, 50, 51, 52, 53, 54, 55, 56, 57, 97, 98, 99, 100, 101, 102, 65, 66, 67, 68, 69, 70]⟩ : ByteArray).size : Int)) ∧
   (((⟨#[92, 117, 48, 48]⟩ : ByteArray) ++ ((⟨#[48, 49, 50, 51, 52, 53, 54, 55, 56, 57, 97, 98, 99, 100, 101, 102, 65, 66, 67, 68, 69, 70]⟩ : ByteArray).extract (IntKind.u8.wrap (Int.tdiv (bt x1 x38) 16) : Int).toNat (IntKind.u8.wrap ((IntKind.u8.wrap (Int.tdiv (bt x1 x38) 16)) + 1) : Int).toNat)).size + ((⟨#[48, 49, 50, 51, 52, 53, 54, 55, 56, 57, 97, 98, 99, 100, 101, 102, 65, 66, 67, 68, 69, 70]⟩ : ByteArray).extract (Int.tmod (bt x1 x38) 16 : Int).toNat (IntKind.u8.wrap ((Int.tmod (bt x1 x38) 16) + 1) : Int).toNat).size ≤ 9223372036854775807) ∧
   trellisref25_Quote_j2 x1 x38 x37 (((⟨#[92, 117, 48, 48]⟩ : ByteArray) ++ ((⟨#[48, 49, 50, 51, 52, 53, 54, 55, 56, 57, 97, 98, 99, 100, 101, 102, 65, 66, 67, 68, 69, 70]⟩ : ByteArray).extract (IntKind.u8.wrap (Int.tdiv (bt x1 x38) 16) : Int).toNat (IntKind.u8.wrap ((IntKind.u8.wrap (Int.tdiv (bt x1 x38) 16)) + 1) : Int).toNat)) ++ ((⟨#[48, 49, 50, 51, 52, 53, 54, 55, 56, 57, 97, 98, 99, 100, 101, 102, 65, 66, 67, 68, 69, 70]⟩ : ByteArray).extract (Int.tmod (bt x1 x38) 16 : Int).toNat (IntKind.u8.wrap ((Int.tmod (bt x1 x38) 16) + 1) : Int).toNat)) o1
  else
   trellisref25_Quote_j2 x1 x38 x37 (x1.extract (x38 : Int).toNat (w64 (x38 + 1) : Int).toNat) o1
 else
  (x37.size + (⟨#[34]⟩ : ByteArray).size ≤ 9223372036854775807) ∧
  o1 = .inr (x37 ++ (⟨#[34]⟩ : ByteArray))
def trellisref25_Quote (x1 : ByteArray) (r : ByteArray) : Prop :=
 Rounds (fun (s : ByteArray × Int) o => trellisref25_Quote_b1 x1 s.1 s.2 o) ((⟨#[34]⟩ : ByteArray), 0) r
def trellisref25_text_j2 (x1 : List api_JNode) (x6 : Int) (x78 : Int) (r27 : List Int) (rc_trellisref25_text : (List api_JNode) → Int → ByteArray → Prop) (x127 : ByteArray) (o1 : Sum (ByteArray × Int) ByteArray) : Prop :=
 if (ix x1 x6).kind = 7 then
  (0 ≤ x78 ∧ x78 < (r27.length : Int)) ∧
  (0 ≤ ix r27 x78 ∧ ix r27 x78 < (x1.length : Int)) ∧
  ∃ r135 : ByteArray, (trellisref25_Quote ((ix x1 (ix r27 x78)).key) r135) ∧
  (x127.size + r135.size ≤ 9223372036854775807) ∧
  ((x127 ++ r135).size + (⟨#[58]⟩ : ByteArray).size ≤ 9223372036854775807) ∧
  ∃ r145 : ByteArray, (rc_trellisref25_text x1 (ix r27 x78) r145) ∧
  (((x127 ++ r135) ++ (⟨#[58]⟩ : ByteArray)).size + r145.size ≤ 9223372036854775807) ∧
  o1 = .inl (((x127 ++ r135) ++ (⟨#[58]⟩ : ByteArray)) ++ r145, w64 (x78 + 1))
 else
  (0 ≤ x78 ∧ x78 < (r27.length : Int)) ∧
  ∃ r155 : ByteArray, (rc_trellisref25_text x1 (ix r27 x78) r155) ∧
  (x127.size + r155.size ≤ 9223372036854775807) ∧
  o1 = .inl (x127 ++ r155, w64 (x78 + 1))
def trellisref25_text_b1 (r27 : List Int) (x1 : List api_JNode) (x6 : Int) (rc_trellisref25_text : (List api_JNode) → Int → ByteArray → Prop) (x77 : ByteArray) (x78 : Int) (o1 : Sum (ByteArray × Int) ByteArray) : Prop :=
 if x78 < (r27.length : Int) then
  if x78 > 0 then
   (x77.size + (⟨#[44]⟩ : ByteArray).size ≤ 9223372036854775807) ∧
   trellisref25_text_j2 x1 x6 x78 r27 rc_trellisref25_text (x77 ++ (⟨#[44]⟩ : ByteArray)) o1
  else
   trellisref25_text_j2 x1 x6 x78 r27 rc_trellisref25_text x77 o1
 else
  if (ix x1 x6).kind = 7 then
   ((⟨#[123]⟩ : ByteArray).size + x77.size ≤ 9223372036854775807) ∧
   (((⟨#[123]⟩ : ByteArray) ++ x77).size + (⟨#[125]⟩ : ByteArray).size ≤ 9223372036854775807) ∧
   o1 = .inr (((⟨#[123]⟩ : ByteArray) ++ x77) ++ (⟨#[125]⟩ : ByteArray))
  else
   ((⟨#[91]⟩ : ByteArray).size + x77.size ≤ 9223372036854775807) ∧
   (((⟨#[91]⟩ : ByteArray) ++ x77).size + (⟨#[93]⟩ : ByteArray).size ≤ 9223372036854775807) ∧
   o1 = .inr (((⟨#[91]⟩ : ByteArray) ++ x77) ++ (⟨#[93]⟩ : ByteArray))
def trellisref25_text_body (rc_trellisref25_text : (List api_JNode) → Int → ByteArray → Prop) (x1 : List api_JNode) (x6 : Int) (r : ByteArray) : Prop :=
 (0 ≤ x6 ∧ x6 < (x1.length : Int)) ∧
 if (ix x1 x6).kind = 1 then
  r = (⟨#[110, 117, 108, 108]⟩ : ByteArray)
 else
  if (ix x1 x6).kind = 2 then
   r = (⟨#[102, 97, 108, 115, 101]⟩ : ByteArray)
  else
   if (ix x1 x6).kind = 3 then
    r = (⟨#[116, 114, 117, 101]⟩ : ByteArray)
   else
    if (ix x1 x6).kind = 4 then
     r = (ix x1 x6).text
    else
     if (ix x1 x6).kind = 5 then
      ∃ r19 : ByteArray, (trellisref25_Quote ((ix x1 x6).text) r19) ∧
      r = r19
     else
      ∃ r27 : List Int, (trellisref25_kids x1 x6 r27) ∧
      Rounds (fun (s : ByteArray × Int) o => trellisref25_text_b1 r27 x1 x6 rc_trellisref25_text s.1 s.2 o) ((⟨#[]⟩ : ByteArray), 0) r
def trellisref25_text_n : Nat → (List api_JNode) → Int → ByteArray → Prop
 | 0 => fun _ _ _ => False
 | n + 1 => trellisref25_text_body (trellisref25_text_n n)
def trellisref25_text (x1 : List api_JNode) (x6 : Int) (r : ByteArray) : Prop := ∃ n, trellisref25_text_n n x1 x6 r
def trellisref25_Print (x1 : List api_JNode) (r : ByteArray × Int) : Prop :=
 ∃ r9 : Bool, (trellisref25_Shaped x1 r9) ∧
 if r9 = true then
  ∃ r18 : ByteArray, (trellisref25_text x1 0 r18) ∧
  r = (r18, 0)
 else
  r = ((⟨#[]⟩ : ByteArray), 43)
def trellislaw25_JsonPrints_j1 (x1 : List api_JNode) (x94 : Bool) (r : Bool) : Prop :=
 if x94 = true then
  r = false
 else
  ∃ r99 : List api_JNode, (trellislaw25_twin x1 r99) ∧
  ∃ r112 : Bool, (json_Shaped r99 r112) ∧
  ∃ r120 : ByteArray × Int, (json_Print r99 r120) ∧
  ∃ r128 : List api_JNode, (trellislaw25_over r99 r128) ∧
  ∃ r137 : ByteArray × Int, (json_Print r128 r137) ∧
  ∃ r145 : List api_JNode, (trellislaw25_twin r128 r145) ∧
  ∃ r158 : ByteArray × Int, (trellisref25_Print r145 r158) ∧
  ∃ r166 : Bool, (json_Shaped r128 r166) ∧
  ∃ r174 : List api_JNode, (trellislaw25_twin r128 r174) ∧
  ∃ r187 : Bool, (trellisref25_Shaped r174 r187) ∧
  if (r166 == r187) = true then
   if r137.1 = r158.1 then
    r = (r137.2 == r158.2)
   else
    r = false
  else
   r = false
def trellislaw25_JsonPrints (x1 : List api_JNode) (r : Bool) : Prop :=
 ∃ r9 : Bool, (trellisref25_Beyond x1 r9) ∧
 if r9 = true then
  r = true
 else
  ∃ r18 : List api_JNode, (trellislaw25_twin x1 r18) ∧
  ∃ r31 : List api_JNode, (trellislaw25_roomy x1 r31) ∧
  (0 ≤ (0 : Int) ∧ (0 : Int) ≤ (x1.length : Int) ∧ (x1.length : Int) ≤ (r31.length : Int)) ∧
  ∃ x43 : List api_JNode, (x43 = r31.take ((x1.length : Int) : Int).toNat) ∧
  ∃ r49 : Bool, (json_Shaped x43 r49) ∧
  ∃ x55 : List api_JNode, (x55 = r31.take ((x1.length : Int) : Int).toNat) ∧
  ∃ r61 : ByteArray × Int, (json_Print x55 r61) ∧
  ∃ r69 : ByteArray × Int, (trellisref25_Print r18 r69) ∧
  ∃ r197 : Bool, (trellisref25_Shaped r18 r197) ∧
  if (r49 != r197) = true then
   trellislaw25_JsonPrints_j1 x1 true r
  else
   if r61.1 = r69.1 then
    if r61.2 = r69.2 then
     ∃ r208 : Bool, (trellislaw25_spared r31 r18 r208) ∧
     trellislaw25_JsonPrints_j1 x1 (!r208) r
    else
     trellislaw25_JsonPrints_j1 x1 true r
   else
    trellislaw25_JsonPrints_j1 x1 true r
end Go.Proofs.YtmfopcbjgbphaaaDoor.R
