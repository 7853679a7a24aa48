/- What the functions answer, as plain relations, printed by my own tool off the program's translation. No condition. -/
import Derived.Test.YtmfopcbjgbphaaaDoorP0
import Derived.Lib.ValidU
set_option linter.unusedVariables false
namespace Go.Proofs.YtmfopcbjgbphaaaDoor.R
open Go.Proofs.YtmfopcbjgbphaaaDoor.B
def tb_0 : List Int := [0, 0, 0, 0, 0, 0, 0, 0, 98, 116, 110, 0, 102, 114, 0, 0, 0, 0, 0, 0, 0, 0, 0, 0, 0, 0, 0, 0, 0, 0, 0, 0, 0, 0, 34, 0, 0, 0, 0, 0, 0, 0, 0, 0, 0, 0, 0, 0, 0, 0, 0, 0, 0, 0, 0, 0, 0, 0, 0, 0, 0, 0, 0, 0, 0, 0, 0, 0, 0, 0, 0, 0, 0, 0, 0, 0, 0, 0, 0, 0, 0, 0, 0, 0, 0, 0, 0, 0, 0, 0, 0, 0, 92, 0, 0, 0, 0, 0, 0, 0, 0, 0, 0, 0, 0, 0, 0, 0, 0, 0, 0, 0, 0, 0, 0, 0, 0, 0, 0, 0, 0, 0, 0, 0, 0, 0, 0, 0, 0, 0, 0, 0, 0, 0, 0, 0, 0, 0, 0, 0, 0, 0, 0, 0, 0, 0, 0, 0, 0, 0, 0, 0, 0, 0, 0, 0, 0, 0, 0, 0, 0, 0, 0, 0, 0, 0, 0, 0, 0, 0, 0, 0, 0, 0, 0, 0, 0, 0, 0, 0, 0, 0, 0, 0, 0, 0, 0, 0, 0, 0, 0, 0, 0, 0, 0, 0, 0, 0, 0, 0, 0, 0, 0, 0, 0, 0, 0, 0, 0, 0, 0, 0, 0, 0, 0, 0, 0, 0, 0, 0, 0, 0, 0, 0, 0, 0, 0, 0, 0, 0, 0, 0, 0, 0, 0, 0, 0, 0, 0, 0, 0, 0, 0, 0, 0, 0, 0, 0, 0, 0, 0, 0, 0, 0, 0, 0]
def tb_1 : List Int := [240, 240, 240, 240, 240, 240, 240, 240, 240, 240, 240, 240, 240, 240, 240, 240, 240, 240, 240, 240, 240, 240, 240, 240, 240, 240, 240, 240, 240, 240, 240, 240, 240, 240, 240, 240, 240, 240, 240, 240, 240, 240, 240, 240, 240, 240, 240, 240, 240, 240, 240, 240, 240, 240, 240, 240, 240, 240, 240, 240, 240, 240, 240, 240, 240, 240, 240, 240, 240, 240, 240, 240, 240, 240, 240, 240, 240, 240, 240, 240, 240, 240, 240, 240, 240, 240, 240, 240, 240, 240, 240, 240, 240, 240, 240, 240, 240, 240, 240, 240, 240, 240, 240, 240, 240, 240, 240, 240, 240, 240, 240, 240, 240, 240, 240, 240, 240, 240, 240, 240, 240, 240, 240, 240, 240, 240, 240, 240, 241, 241, 241, 241, 241, 241, 241, 241, 241, 241, 241, 241, 241, 241, 241, 241, 241, 241, 241, 241, 241, 241, 241, 241, 241, 241, 241, 241, 241, 241, 241, 241, 241, 241, 241, 241, 241, 241, 241, 241, 241, 241, 241, 241, 241, 241, 241, 241, 241, 241, 241, 241, 241, 241, 241, 241, 241, 241, 241, 241, 241, 241, 241, 241, 241, 241, 2, 2, 2, 2, 2, 2, 2, 2, 2, 2, 2, 2, 2, 2, 2, 2, 2, 2, 2, 2, 2, 2, 2, 2, 2, 2, 2, 2, 2, 2, 19, 3, 3, 3, 3, 3, 3, 3, 3, 3, 3, 3, 3, 35, 3, 3, 52, 4, 4, 4, 68, 241, 241, 241, 241, 241, 241, 241, 241, 241, 241, 241]
def tb_2 : List Int := [128, 191, 160, 191, 128, 159, 144, 191, 128, 143, 0, 0, 0, 0, 0, 0, 0, 0, 0, 0, 0, 0, 0, 0, 0, 0, 0, 0, 0, 0, 0, 0]
def tb_6 : List Int := [0, 1, 28, 2, 29, 14, 24, 3, 30, 22, 20, 15, 25, 17, 4, 8, 31, 27, 13, 23, 21, 19, 16, 7, 26, 12, 18, 6, 11, 5, 10, 9]
def tb_7 : List Int := [0, 1, 56, 2, 57, 49, 28, 3, 61, 58, 42, 50, 38, 29, 17, 4, 62, 47, 59, 36, 45, 43, 51, 22, 53, 39, 33, 30, 24, 18, 12, 5, 63, 55, 48, 27, 60, 41, 37, 16, 46, 35, 44, 21, 52, 32, 23, 11, 54, 26, 40, 15, 34, 20, 31, 10, 25, 14, 19, 9, 13, 8, 7, 6]
structure api_JNode where
 kind : Int
 key : ByteArray
 text : ByteArray
 kids : Int
 deriving Inhabited, DecidableEq
structure json_parser where
 text : ByteArray
 at_ : Int
 out : List api_JNode
 in_ : Int
 code : Int
 deriving Inhabited, DecidableEq
structure trellisref25_Reader where
 s : ByteArray
 l : List api_JNode
 e : Int
 at_ : Int
 deriving Inhabited, DecidableEq
structure strings_Builder where
 addr : Bool
 buf : List Int
 deriving Inhabited
def trellisref25_Beyond_b2 (x40 : Int) (x1 : List api_JNode) (x207 : List Int) (o2 : Sum (List Int) (Sum ((List Int) × Int) Bool)) : Prop :=
 if (x207.length : Int) > 0 then
  (0 ≤ w64 ((x207.length : Int) - 1) ∧ w64 ((x207.length : Int) - 1) < (x207.length : Int)) ∧
  if ix x207 (w64 ((x207.length : Int) - 1)) ≤ 0 then
   (0 ≤ (0 : Int) ∧ (0 : Int) ≤ w64 ((x207.length : Int) - 1) ∧ w64 ((x207.length : Int) - 1) ≤ (x207.length : Int)) ∧
   ∃ x256 : List Int, (x256 = x207.take (w64 ((x207.length : Int) - 1) : Int).toNat) ∧
   o2 = .inl x256
  else
   ∃ x260 : List Int, (x260 = x207.set (w64 ((x207.length : Int) - 1) : Int).toNat (w64 ((ix x207 (w64 ((x207.length : Int) - 1))) - 1))) ∧
   (0 ≤ x40 ∧ x40 < (x1.length : Int)) ∧
   ∃ x275 : List Int, (x275 = x260 ++ ([(ix x1 x40).kids] : List Int)) ∧
   (x275.length * 8 ≤ 211106232532992) ∧
   if (x275.length : Int) > 65536 then
    o2 = .inr (.inr (true))
   else
    o2 = .inr (.inl (x275, w64 (x40 + 1)))
 else
  (0 ≤ x40 ∧ x40 < (x1.length : Int)) ∧
  ∃ x287 : List Int, (x287 = x207 ++ ([(ix x1 x40).kids] : List Int)) ∧
  (x287.length * 8 ≤ 211106232532992) ∧
  if (x287.length : Int) > 65536 then
   o2 = .inr (.inr (true))
  else
   o2 = .inr (.inl (x287, w64 (x40 + 1)))
def trellisref25_Beyond_b1 (x1 : List api_JNode) (x35 : List Int) (x40 : Int) (o1 : Sum ((List Int) × Int) Bool) : Prop :=
 if x40 < (x1.length : Int) then
  Rounds (fun (s : (List Int)) o => trellisref25_Beyond_b2 x40 x1 s o) x35 o1
 else
  o1 = .inr (false)
def trellisref25_Beyond (x1 : List api_JNode) (r : Bool) : Prop :=
 Rounds (fun (s : (List Int) × Int) o => trellisref25_Beyond_b1 x1 s.1 s.2 o) (([] : List Int), 0) r
def trellislaw25_twin_b1 (x1 : List api_JNode) (x20 : List api_JNode) (x25 : Int) (o1 : Sum ((List api_JNode) × Int) (List api_JNode)) : Prop :=
 if x25 < (x1.length : Int) then
  (0 ≤ x25 ∧ x25 < (x1.length : Int)) ∧
  ∃ x47 : List api_JNode, (x47 = x20 ++ ([ix x1 x25] : List api_JNode)) ∧
  (x47.length * 48 ≤ 211106232532992) ∧
  o1 = .inl (x47, w64 (x25 + 1))
 else
  o1 = .inr (x20)
def trellislaw25_twin (x1 : List api_JNode) (r : List api_JNode) : Prop :=
 Rounds (fun (s : (List api_JNode) × Int) o => trellislaw25_twin_b1 x1 s.1 s.2 o) (([] : List api_JNode), 0) r
def trellislaw25_roomy (x1 : List api_JNode) (r : List api_JNode) : Prop :=
 ∃ r9 : List api_JNode, (trellislaw25_twin x1 r9) ∧
 ∃ x25 : List api_JNode, (x25 = r9 ++ ([(⟨0, (⟨#[109, 97, 114, 107]⟩ : ByteArray), (⟨#[]⟩ : ByteArray), 0⟩ : api_JNode), (⟨0, (⟨#[109, 97, 114, 107]⟩ : ByteArray), (⟨#[]⟩ : ByteArray), 0⟩ : api_JNode)] : List api_JNode)) ∧
 (x25.length * 48 ≤ 211106232532992) ∧
 r = x25
def unicode_utf8_ValidString (x1 : ByteArray) (r : Bool) : Prop :=
 (x1.size ≤ 9223372036854775807) ∧ r = Lib.validD x1.data.toList
def internal_stringslite_IndexByte (x1 : ByteArray) (x2 : Int) (r : Int) : Prop :=
 r = idxB x1 x2
def strings_IndexByte (x1 : ByteArray) (x2 : Int) (r : Int) : Prop :=
 ∃ r6 : Int, (internal_stringslite_IndexByte x1 x2 r6) ∧
 r = r6
def json_parser_is (x1 : json_parser) (x8 : ByteArray) (r : Bool × json_parser) : Prop :=
 if x1.at_ < (x1.text.size : Int) then
  (0 ≤ x1.at_ ∧ x1.at_ < (x1.text.size : Int)) ∧
  ∃ r14 : Int, (strings_IndexByte x8 (bt x1.text x1.at_) r14) ∧
  r = (decide (r14 ≥ 0), x1)
 else
  r = (false, x1)
def json_parser_take (x1 : json_parser) (x8 : ByteArray) (r : Bool × json_parser) : Prop :=
 ∃ r12 : Bool × json_parser, (json_parser_is x1 x8 r12) ∧
 if r12.1 = true then
  r = (true, (⟨r12.2.text, w64 (r12.2.at_ + 1), r12.2.out, r12.2.in_, r12.2.code⟩ : json_parser))
 else
  r = (false, r12.2)
def json_parser_digits_b1 (x39 : ByteArray) (x40 : Int) (x41 : List api_JNode) (x48 : Int) (x49 : Int) (o1 : Sum (ByteArray × Int × (List api_JNode) × Int × Int) (Bool × json_parser)) : Prop :=
 ∃ r68 : Bool × json_parser, (json_parser_is (⟨x39, x40, x41, x48, x49⟩ : json_parser) (⟨#[48, 49, 50, 51, 52, 53, 54, 55, 56, 57]⟩ : ByteArray) r68) ∧
 if r68.1 = true then
  o1 = .inl (r68.2.text, w64 (r68.2.at_ + 1), r68.2.out, r68.2.in_, r68.2.code)
 else
  o1 = .inr ((true, r68.2))
def json_parser_digits (x1 : json_parser) (r : Bool × json_parser) : Prop :=
 ∃ r11 : Bool × json_parser, (json_parser_take x1 (⟨#[48, 49, 50, 51, 52, 53, 54, 55, 56, 57]⟩ : ByteArray) r11) ∧
 if r11.1 = true then
  Rounds (fun (s : ByteArray × Int × (List api_JNode) × Int × Int) o => json_parser_digits_b1 s.1 s.2.1 s.2.2.1 s.2.2.2.1 s.2.2.2.2 o) (r11.2.text, r11.2.at_, r11.2.out, r11.2.in_, r11.2.code) r
 else
  r = (false, r11.2)
def json_parser_number_j4 (r127 : Bool × json_parser) (x140 : Int) (r : Bool × json_parser) : Prop :=
 ∃ r144 : Bool × json_parser, (json_parser_digits (⟨r127.2.text, x140, r127.2.out, r127.2.in_, r127.2.code⟩ : json_parser) r144) ∧
 r = (r144.1, r144.2)
def json_parser_number_j3 (x98 : ByteArray) (x99 : Int) (x100 : List api_JNode) (x107 : Int) (x108 : Int) (r : Bool × json_parser) : Prop :=
 ∃ r112 : Bool × json_parser, (json_parser_is (⟨x98, x99, x100, x107, x108⟩ : json_parser) (⟨#[101, 69]⟩ : ByteArray) r112) ∧
 if r112.1 = true then
  ∃ r127 : Bool × json_parser, (json_parser_is (⟨r112.2.text, w64 (r112.2.at_ + 1), r112.2.out, r112.2.in_, r112.2.code⟩ : json_parser) (⟨#[43, 45]⟩ : ByteArray) r127) ∧
  if r127.1 = true then
   json_parser_number_j4 r127 (w64 (r127.2.at_ + 1)) r
  else
   json_parser_number_j4 r127 r127.2.at_ r
 else
  r = (true, r112.2)
def json_parser_number_j2 (x56 : ByteArray) (x57 : Int) (x58 : List api_JNode) (x65 : Int) (x66 : Int) (r : Bool × json_parser) : Prop :=
 ∃ r70 : Bool × json_parser, (json_parser_is (⟨x56, x57, x58, x65, x66⟩ : json_parser) (⟨#[46]⟩ : ByteArray) r70) ∧
 if r70.1 = true then
  ∃ r158 : Bool × json_parser, (json_parser_digits (⟨r70.2.text, w64 (r70.2.at_ + 1), r70.2.out, r70.2.in_, r70.2.code⟩ : json_parser) r158) ∧
  if r158.1 = true then
   json_parser_number_j3 r158.2.text r158.2.at_ r158.2.out r158.2.in_ r158.2.code r
  else
   r = (false, r158.2)
 else
  json_parser_number_j3 r70.2.text r70.2.at_ r70.2.out r70.2.in_ r70.2.code r
def json_parser_number_j1 (r11 : Bool × json_parser) (x24 : Int) (r : Bool × json_parser) : Prop :=
 ∃ r28 : Bool × json_parser, (json_parser_is (⟨r11.2.text, x24, r11.2.out, r11.2.in_, r11.2.code⟩ : json_parser) (⟨#[48]⟩ : ByteArray) r28) ∧
 if r28.1 = true then
  json_parser_number_j2 r28.2.text (w64 (r28.2.at_ + 1)) r28.2.out r28.2.in_ r28.2.code r
 else
  ∃ r173 : Bool × json_parser, (json_parser_digits r28.2 r173) ∧
  if r173.1 = true then
   json_parser_number_j2 r173.2.text r173.2.at_ r173.2.out r173.2.in_ r173.2.code r
  else
   r = (false, r173.2)
def json_parser_number (x1 : json_parser) (r : Bool × json_parser) : Prop :=
 ∃ r11 : Bool × json_parser, (json_parser_is x1 (⟨#[45]⟩ : ByteArray) r11) ∧
 if r11.1 = true then
  json_parser_number_j1 r11 (w64 (r11.2.at_ + 1)) r
 else
  json_parser_number_j1 r11 r11.2.at_ r
def json_sound_j3 (x1 : api_JNode) (x104 : Bool) (r : Bool) : Prop :=
 if x104 = true then
  if x1.kids = 0 then
   r = (seq x1.text (⟨#[]⟩ : ByteArray))
  else
   r = false
 else
  r = false
def json_sound_j2 (x1 : api_JNode) (x18 : Bool) (r : Bool) : Prop :=
 if x18 = true then
  r = (seq x1.text (⟨#[]⟩ : ByteArray))
 else
  if x1.kind = 4 then
   if x1.kids = 0 then
    if x1.text = (⟨#[]⟩ : ByteArray) then
     r = false
    else
     ∃ r28 : Bool × json_parser, (json_parser_number (⟨x1.text, 0, ([] : List api_JNode), 0, 0⟩ : json_parser) r28) ∧
     if r28.1 = true then
      r = (r28.2.at_ == (x1.text.size : Int))
     else
      r = false
   else
    r = false
  else
   if x1.kind = 5 then
    if x1.kids = 0 then
     ∃ r96 : Bool, (unicode_utf8_ValidString x1.text r96) ∧
     r = r96
    else
     r = false
   else
    if x1.kind = 1 then
     json_sound_j3 x1 (x1.kind == 1) r
    else
     if x1.kind = 2 then
      json_sound_j3 x1 (x1.kind == 2) r
     else
      json_sound_j3 x1 (x1.kind == 3) r
def json_sound_j1 (x1 : api_JNode) (x14 : Bool) (r : Bool) : Prop :=
 if x14 = true then
  r = false
 else
  if x1.kind = 6 then
   json_sound_j2 x1 (x1.kind == 6) r
  else
   json_sound_j2 x1 (x1.kind == 7) r
def json_sound (x1 : api_JNode) (r : Bool) : Prop :=
 if x1.kids < 0 then
  json_sound_j1 x1 true r
 else
  ∃ r112 : Bool, (unicode_utf8_ValidString x1.key r112) ∧
  json_sound_j1 x1 (!r112) r
def json_subtree_b3 (x1 : List api_JNode) (x6 : Int) (rc_json_subtree : (List api_JNode) → Int → Int → Bool → Int → Prop) (x7 : Int) (x53 : Int) (x54 : Int) (x55 : ByteArray → Int) (o1 : Sum (Int × Int × (ByteArray → Int)) Int) : Prop :=
 if x54 < (ix x1 x6).kids then
  ∃ r75 : Int, (rc_json_subtree x1 x53 (w64 (x7 + 1)) (((ix x1 x6).kind) == 7) r75) ∧
  if r75 < 0 then
   o1 = .inr (-1)
  else
   if (ix x1 x6).kind = 7 then
    (0 ≤ x53 ∧ x53 < (x1.length : Int)) ∧
    if x55 ((ix x1 x53).key) > 0 then
     o1 = .inr (-1)
    else
     o1 = .inl (r75, w64 (x54 + 1), (updM x55 ((ix x1 x53).key) 1))
   else
    o1 = .inl (r75, w64 (x54 + 1), x55)
 else
  o1 = .inr (x53)
def json_subtree_j2 (x6 : Int) (x7 : Int) (x1 : List api_JNode) (rc_json_subtree : (List api_JNode) → Int → Int → Bool → Int → Prop) (x32 : Bool) (r : Int) : Prop :=
 if x32 = true then
  r = w64 (x6 + 1)
 else
  if x7 ≥ 64 then
   r = -1
  else
   Rounds (fun (s : Int × Int × (ByteArray → Int)) o => json_subtree_b3 x1 x6 rc_json_subtree x7 s.1 s.2.1 s.2.2 o) (w64 (x6 + 1), 0, (fun _ => 0)) r
def json_subtree_j1 (x6 : Int) (x1 : List api_JNode) (x7 : Int) (rc_json_subtree : (List api_JNode) → Int → Int → Bool → Int → Prop) (x24 : Bool) (r : Int) : Prop :=
 if x24 = true then
  r = -1
 else
  (0 ≤ x6 ∧ x6 < (x1.length : Int)) ∧
  if (ix x1 x6).kind = 6 then
   json_subtree_j2 x6 x7 x1 rc_json_subtree false r
  else
   json_subtree_j2 x6 x7 x1 rc_json_subtree (((ix x1 x6).kind) != 7) r
def json_subtree_body (rc_json_subtree : (List api_JNode) → Int → Int → Bool → Int → Prop) (x1 : List api_JNode) (x6 : Int) (x7 : Int) (x8 : Bool) (r : Int) : Prop :=
 if x6 ≥ (x1.length : Int) then
  json_subtree_j1 x6 x1 x7 rc_json_subtree true r
 else
  (0 ≤ x6 ∧ x6 < (x1.length : Int)) ∧
  ∃ r93 : Bool, (json_sound (ix x1 x6) r93) ∧
  if r93 = true then
   if x8 = true then
    json_subtree_j1 x6 x1 x7 rc_json_subtree false r
   else
    json_subtree_j1 x6 x1 x7 rc_json_subtree (!(seq ((ix x1 x6).key) (⟨#[]⟩ : ByteArray))) r
  else
   json_subtree_j1 x6 x1 x7 rc_json_subtree true r
def json_subtree_n : Nat → (List api_JNode) → Int → Int → Bool → Int → Prop
 | 0 => fun _ _ _ _ _ => False
 | n + 1 => json_subtree_body (json_subtree_n n)
def json_subtree (x1 : List api_JNode) (x6 : Int) (x7 : Int) (x8 : Bool) (r : Int) : Prop := ∃ n, json_subtree_n n x1 x6 x7 x8 r
def json_Shaped (x1 : List api_JNode) (r : Bool) : Prop :=
 if (x1.length : Int) > 0 then
  ∃ r10 : Int, (json_subtree x1 0 0 false r10) ∧
  r = (r10 == (x1.length : Int))
 else
  r = false
def json_size_b1 (x6 : Int) (x1 : List api_JNode) (x13 : Int) (x14 : Int) (o1 : Sum (Int × Int) Int) : Prop :=
 if x14 > 0 then
  (0 ≤ w64 (x6 + x13) ∧ w64 (x6 + x13) < (x1.length : Int)) ∧
  o1 = .inl (w64 (x13 + 1), w64 ((w64 (x14 + ((ix x1 (w64 (x6 + x13))).kids))) - 1))
 else
  o1 = .inr (x13)
def json_size (x1 : List api_JNode) (x6 : Int) (r : Int) : Prop :=
 (0 ≤ x6 ∧ x6 < (x1.length : Int)) ∧
 Rounds (fun (s : Int × Int) o => json_size_b1 x6 x1 s.1 s.2 o) (1, (ix x1 x6).kids) r
def json_Member_b2 (x1 : List api_JNode) (x6 : Int) (x7 : ByteArray) (x39 : Int) (x40 : Int) (o1 : Sum (Int × Int) Int) : Prop :=
 if x40 < (ix x1 x6).kids then
  (0 ≤ x39 ∧ x39 < (x1.length : Int)) ∧
  if (ix x1 x39).key = x7 then
   o1 = .inr (x39)
  else
   ∃ r60 : Int, (json_size x1 x39 r60) ∧
   o1 = .inl (w64 (x39 + r60), w64 (x40 + 1))
 else
  o1 = .inr (-1)
def json_Member_j1 (x6 : Int) (x1 : List api_JNode) (x7 : ByteArray) (x22 : Bool) (r : Int) : Prop :=
 if x22 = true then
  r = -1
 else
  (0 ≤ x6 ∧ x6 < (x1.length : Int)) ∧
  Rounds (fun (s : Int × Int) o => json_Member_b2 x1 x6 x7 s.1 s.2 o) (w64 (x6 + 1), 0) r
def json_Member (x1 : List api_JNode) (x6 : Int) (x7 : ByteArray) (r : Int) : Prop :=
 if x6 < 0 then
  json_Member_j1 x6 x1 x7 true r
 else
  if x6 ≥ (x1.length : Int) then
   json_Member_j1 x6 x1 x7 true r
  else
   (0 ≤ x6 ∧ x6 < (x1.length : Int)) ∧
   if (ix x1 x6).kind = 7 then
    ∃ r73 : Bool, (json_Shaped x1 r73) ∧
    json_Member_j1 x6 x1 x7 (!r73) r
   else
    json_Member_j1 x6 x1 x7 true r
def internal_stringslite_HasPrefix (x1 : ByteArray) (x2 : ByteArray) (r : Bool) : Prop :=
 if (x1.size : Int) ≥ (x2.size : Int) then
  (0 ≤ (0 : Int) ∧ (0 : Int) ≤ (x2.size : Int) ∧ (x2.size : Int) ≤ (x1.size : Int)) ∧
  r = (seq (x1.extract (0 : Int).toNat ((x2.size : Int) : Int).toNat) x2)
 else
  r = false
def internal_stringslite_CutPrefix (x1 : ByteArray) (x2 : ByteArray) (r : ByteArray × Bool) : Prop :=
 ∃ r6 : Bool, (internal_stringslite_HasPrefix x1 x2 r6) ∧
 if r6 = true then
  (0 ≤ (x2.size : Int) ∧ (x2.size : Int) ≤ (x1.size : Int) ∧ (x1.size : Int) ≤ (x1.size : Int)) ∧
  r = (x1.extract ((x2.size : Int) : Int).toNat ((x1.size : Int) : Int).toNat, true)
 else
  r = (x1, false)
def strings_CutPrefix (x1 : ByteArray) (x2 : ByteArray) (r : ByteArray × Bool) : Prop :=
 ∃ r6 : ByteArray × Bool, (internal_stringslite_CutPrefix x1 x2 r6) ∧
 r = (r6.1, r6.2)
def json_Int_j3 (x46 : Int) (r28 : ByteArray × Bool) (x45 : Int) (x63 : Bool) (o1 : Sum (Int × Int) (Int × Bool)) : Prop :=
 if x63 = true then
  o1 = .inr ((0, false))
 else
  (0 ≤ x46 ∧ x46 < (r28.1.size : Int)) ∧
  if x45 > IntKind.u64.wrap (Int.tdiv (IntKind.u64.wrap (9223372036854775808 - (IntKind.u64.wrap (IntKind.u8.wrap ((bt r28.1 x46) - 48))))) 10) then
   o1 = .inr ((0, false))
  else
   o1 = .inl (IntKind.u64.wrap ((IntKind.u64.wrap (10 * x45)) + (IntKind.u64.wrap (IntKind.u8.wrap ((bt r28.1 x46) - 48)))), w64 (x46 + 1))
def json_Int_b2 (r28 : ByteArray × Bool) (x45 : Int) (x46 : Int) (o1 : Sum (Int × Int) (Int × Bool)) : Prop :=
 if x46 < (r28.1.size : Int) then
  (0 ≤ x46 ∧ x46 < (r28.1.size : Int)) ∧
  if bt r28.1 x46 < 48 then
   json_Int_j3 x46 r28 x45 true o1
  else
   json_Int_j3 x46 r28 x45 (decide (bt r28.1 x46 > 57)) o1
 else
  if r28.2 = true then
   o1 = .inr ((w64 (IntKind.u64.wrap (0 - x45)), true))
  else
   if x45 > 9223372036854775807 then
    o1 = .inr ((0, false))
   else
    o1 = .inr ((w64 (x45), true))
def json_Int_j1 (x6 : Int) (x1 : List api_JNode) (x21 : Bool) (r : Int × Bool) : Prop :=
 if x21 = true then
  r = (0, false)
 else
  (0 ≤ x6 ∧ x6 < (x1.length : Int)) ∧
  ∃ r28 : ByteArray × Bool, (strings_CutPrefix ((ix x1 x6).text) (⟨#[45]⟩ : ByteArray) r28) ∧
  Rounds (fun (s : Int × Int) o => json_Int_b2 r28 s.1 s.2 o) (0, 0) r
def json_Int (x1 : List api_JNode) (x6 : Int) (r : Int × Bool) : Prop :=
 if x6 < 0 then
  json_Int_j1 x6 x1 true r
 else
  if x6 ≥ (x1.length : Int) then
   json_Int_j1 x6 x1 true r
  else
   (0 ≤ x6 ∧ x6 < (x1.length : Int)) ∧
   if (ix x1 x6).kind = 4 then
    ∃ r79 : Bool, (json_Shaped x1 r79) ∧
    json_Int_j1 x6 x1 (!r79) r
   else
    json_Int_j1 x6 x1 true r
def trellisref25_Behind_j2 (x23 : Int) (x1 : List api_JNode) (x24 : Int) (x48 : Bool) (o1 : Sum (Int × Int) Int) : Prop :=
 if x48 = true then
  o1 = .inr (-1)
 else
  (0 ≤ x23 ∧ x23 < (x1.length : Int)) ∧
  o1 = .inl (w64 (x23 + 1), w64 ((w64 (x24 - 1)) + ((ix x1 x23).kids)))
def trellisref25_Behind_b1 (x1 : List api_JNode) (x23 : Int) (x24 : Int) (o1 : Sum (Int × Int) Int) : Prop :=
 if x24 > 0 then
  if x23 ≥ (x1.length : Int) then
   trellisref25_Behind_j2 x23 x1 x24 true o1
  else
   (0 ≤ x23 ∧ x23 < (x1.length : Int)) ∧
   if (ix x1 x23).kids < 0 then
    trellisref25_Behind_j2 x23 x1 x24 true o1
   else
    trellisref25_Behind_j2 x23 x1 x24 (decide ((ix x1 x23).kids > (x1.length : Int))) o1
 else
  o1 = .inr (x23)
def trellisref25_Behind (x1 : List api_JNode) (x6 : Int) (r : Int) : Prop :=
 Rounds (fun (s : Int × Int) o => trellisref25_Behind_b1 x1 s.1 s.2 o) (x6, 1) r
def trellisref25_Ranges_j1 (x1 : Int) (x5 : Bool) (r : (List Int) × Bool) : Prop :=
 if x5 = true then
  r = (([] : List Int), false)
 else
  if x1 < 224 then
   r = (([128, 191] : List Int), true)
  else
   if x1 = 224 then
    r = (([160, 191, 128, 191] : List Int), true)
   else
    if x1 = 237 then
     r = (([128, 159, 128, 191] : List Int), true)
    else
     if x1 < 240 then
      r = (([128, 191, 128, 191] : List Int), true)
     else
      if x1 = 240 then
       r = (([144, 191, 128, 191, 128, 191] : List Int), true)
      else
       if x1 = 244 then
        r = (([128, 143, 128, 191, 128, 191] : List Int), true)
       else
        r = (([128, 191, 128, 191, 128, 191] : List Int), true)
def trellisref25_Ranges (x1 : Int) (r : (List Int) × Bool) : Prop :=
 if x1 < 128 then
  r = (([] : List Int), true)
 else
  if x1 < 194 then
   trellisref25_Ranges_j1 x1 true r
  else
   trellisref25_Ranges_j1 x1 (decide (x1 > 244)) r
def trellisref25_Reader_stop (x1 : trellisref25_Reader) (x8 : Int) (x9 : Int) (r : Int × trellisref25_Reader) : Prop :=
 if x1.e = 0 then
  r = (x9, (⟨x1.s, x1.l, x8, x9⟩ : trellisref25_Reader))
 else
  r = (x9, x1)
def trellisref25_Reader_char_j2 (x1 : trellisref25_Reader) (x53 : Int) (x54 : Int) (x91 : Bool) (o1 : Sum (Int × Int) (Int × trellisref25_Reader)) : Prop :=
 if x91 = true then
  ∃ r96 : Int × trellisref25_Reader, (trellisref25_Reader_stop x1 250 x53 r96) ∧
  o1 = .inr ((r96.1, r96.2))
 else
  o1 = .inl (w64 (x53 + 1), w64 (x54 + 2))
def trellisref25_Reader_char_b1 (r13 : (List Int) × Bool) (x1 : trellisref25_Reader) (x53 : Int) (x54 : Int) (o1 : Sum (Int × Int) (Int × trellisref25_Reader)) : Prop :=
 if x54 < (r13.1.length : Int) then
  if x53 ≥ (x1.s.size : Int) then
   trellisref25_Reader_char_j2 x1 x53 x54 true o1
  else
   (0 ≤ x53 ∧ x53 < (x1.s.size : Int)) ∧
   (0 ≤ x54 ∧ x54 < (r13.1.length : Int)) ∧
   if w64 (bt x1.s x53) < ix r13.1 x54 then
    trellisref25_Reader_char_j2 x1 x53 x54 true o1
   else
    (0 ≤ w64 (x54 + 1) ∧ w64 (x54 + 1) < (r13.1.length : Int)) ∧
    trellisref25_Reader_char_j2 x1 x53 x54 (decide (w64 (bt x1.s x53) > ix r13.1 (w64 (x54 + 1)))) o1
 else
  o1 = .inr ((x53, x1))
def trellisref25_Reader_char (x1 : trellisref25_Reader) (x8 : Int) (r : Int × trellisref25_Reader) : Prop :=
 (0 ≤ x8 ∧ x8 < (x1.s.size : Int)) ∧
 ∃ r13 : (List Int) × Bool, (trellisref25_Ranges (bt x1.s x8) r13) ∧
 if r13.2 = true then
  Rounds (fun (s : Int × Int) o => trellisref25_Reader_char_b1 r13 x1 s.1 s.2 o) (w64 (x8 + 1), 0) r
 else
  ∃ r115 : Int × trellisref25_Reader, (trellisref25_Reader_stop x1 250 x8 r115) ∧
  r = (r115.1, r115.2)
def trellisref25_Valid_b1 (x1 : ByteArray) (x20 : Int) (x21 : ByteArray) (x22 : List api_JNode) (x29 : Int) (x30 : Int) (o1 : Sum (Int × ByteArray × (List api_JNode) × Int × Int) Bool) : Prop :=
 if x20 < (x1.size : Int) then
  if x29 = 0 then
   ∃ r52 : Int × trellisref25_Reader, (trellisref25_Reader_char (⟨x21, x22, x29, x30⟩ : trellisref25_Reader) x20 r52) ∧
   o1 = .inl (r52.1, r52.2.s, r52.2.l, r52.2.e, r52.2.at_)
  else
   o1 = .inr ((x29 == 0))
 else
  o1 = .inr ((x29 == 0))
def trellisref25_Valid (x1 : ByteArray) (r : Bool) : Prop :=
 Rounds (fun (s : Int × ByteArray × (List api_JNode) × Int × Int) o => trellisref25_Valid_b1 x1 s.1 s.2.1 s.2.2.1 s.2.2.2.1 s.2.2.2.2 o) (0, x1, ([] : List api_JNode), 0, 0) r
def trellisref25_Reader_has_b1 (x9 : ByteArray) (x8 : Int) (x1 : trellisref25_Reader) (x16 : Int) (o1 : Sum Int (Bool × trellisref25_Reader)) : Prop :=
 if x16 < (x9.size : Int) then
  (0 ≤ x16 ∧ x16 < (x9.size : Int)) ∧
  (0 ≤ x8 ∧ x8 < (x1.s.size : Int)) ∧
  if bt x9 x16 = bt x1.s x8 then
   o1 = .inr ((true, x1))
  else
   o1 = .inl (w64 (x16 + 1))
 else
  o1 = .inr ((false, x1))
def trellisref25_Reader_has (x1 : trellisref25_Reader) (x8 : Int) (x9 : ByteArray) (r : Bool × trellisref25_Reader) : Prop :=
 if x8 ≥ (x1.s.size : Int) then
  r = (false, x1)
 else
  Rounds (fun (s : Int) o => trellisref25_Reader_has_b1 x9 x8 x1 s o) 0 r
def trellisref25_Reader_need (x1 : trellisref25_Reader) (x8 : Int) (x9 : ByteArray) (r : Int × trellisref25_Reader) : Prop :=
 if x1.e = 0 then
  ∃ r14 : Bool × trellisref25_Reader, (trellisref25_Reader_has x1 x8 x9 r14) ∧
  if r14.1 = true then
   r = (w64 (x8 + 1), r14.2)
  else
   ∃ r29 : Int × trellisref25_Reader, (trellisref25_Reader_stop r14.2 250 x8 r29) ∧
   r = (r29.1, r29.2)
 else
  r = (x8, x1)
def trellisref25_Reader_skip_b1 (x9 : ByteArray) (x27 : Int) (x28 : ByteArray) (x29 : List api_JNode) (x36 : Int) (x37 : Int) (o1 : Sum (Int × ByteArray × (List api_JNode) × Int × Int) (Int × trellisref25_Reader)) : Prop :=
 if x36 = 0 then
  ∃ r58 : Bool × trellisref25_Reader, (trellisref25_Reader_has (⟨x28, x29, x36, x37⟩ : trellisref25_Reader) x27 x9 r58) ∧
  if r58.1 = true then
   o1 = .inl (w64 (x27 + 1), r58.2.s, r58.2.l, r58.2.e, r58.2.at_)
  else
   o1 = .inr ((x27, r58.2))
 else
  o1 = .inr ((x27, (⟨x28, x29, x36, x37⟩ : trellisref25_Reader)))
def trellisref25_Reader_skip (x1 : trellisref25_Reader) (x8 : Int) (x9 : ByteArray) (r : Int × trellisref25_Reader) : Prop :=
 Rounds (fun (s : Int × ByteArray × (List api_JNode) × Int × Int) o => trellisref25_Reader_skip_b1 x9 s.1 s.2.1 s.2.2.1 s.2.2.2.1 s.2.2.2.2 o) (x8, x1.s, x1.l, x1.e, x1.at_) r
def trellisref25_Reader_number_j6 (r181 : Bool × trellisref25_Reader) (x194 : Int) (r : Int × trellisref25_Reader) : Prop :=
 ∃ r198 : Int × trellisref25_Reader, (trellisref25_Reader_need r181.2 x194 (⟨#[48, 49, 50, 51, 52, 53, 54, 55, 56, 57]⟩ : ByteArray) r198) ∧
 ∃ r212 : Int × trellisref25_Reader, (trellisref25_Reader_skip r198.2 r198.1 (⟨#[48, 49, 50, 51, 52, 53, 54, 55, 56, 57]⟩ : ByteArray) r212) ∧
 r = (r212.1, r212.2)
def trellisref25_Reader_number_j5 (x139 : Int) (x166 : Bool) (x167 : ByteArray) (x168 : List api_JNode) (x175 : Int) (x176 : Int) (r : Int × trellisref25_Reader) : Prop :=
 if x166 = true then
  ∃ r181 : Bool × trellisref25_Reader, (trellisref25_Reader_has (⟨x167, x168, x175, x176⟩ : trellisref25_Reader) (w64 (x139 + 1)) (⟨#[43, 45]⟩ : ByteArray) r181) ∧
  if r181.1 = true then
   trellisref25_Reader_number_j6 r181 (w64 ((w64 (x139 + 1)) + 1)) r
  else
   trellisref25_Reader_number_j6 r181 (w64 (x139 + 1)) r
 else
  r = (x139, (⟨x167, x168, x175, x176⟩ : trellisref25_Reader))
def trellisref25_Reader_number_j4 (x139 : Int) (x140 : ByteArray) (x141 : List api_JNode) (x148 : Int) (x149 : Int) (r : Int × trellisref25_Reader) : Prop :=
 if x148 = 0 then
  ∃ r227 : Bool × trellisref25_Reader, (trellisref25_Reader_has (⟨x140, x141, x148, x149⟩ : trellisref25_Reader) x139 (⟨#[101, 69]⟩ : ByteArray) r227) ∧
  trellisref25_Reader_number_j5 x139 r227.1 r227.2.s r227.2.l r227.2.e r227.2.at_ r
 else
  trellisref25_Reader_number_j5 x139 false x140 x141 x148 x149 r
def trellisref25_Reader_number_j3 (x71 : Int) (x98 : Bool) (x99 : ByteArray) (x100 : List api_JNode) (x107 : Int) (x108 : Int) (r : Int × trellisref25_Reader) : Prop :=
 if x98 = true then
  ∃ r241 : Int × trellisref25_Reader, (trellisref25_Reader_need (⟨x99, x100, x107, x108⟩ : trellisref25_Reader) (w64 (x71 + 1)) (⟨#[48, 49, 50, 51, 52, 53, 54, 55, 56, 57]⟩ : ByteArray) r241) ∧
  ∃ r255 : Int × trellisref25_Reader, (trellisref25_Reader_skip r241.2 r241.1 (⟨#[48, 49, 50, 51, 52, 53, 54, 55, 56, 57]⟩ : ByteArray) r255) ∧
  trellisref25_Reader_number_j4 r255.1 r255.2.s r255.2.l r255.2.e r255.2.at_ r
 else
  trellisref25_Reader_number_j4 x71 x99 x100 x107 x108 r
def trellisref25_Reader_number_j2 (x71 : Int) (x72 : ByteArray) (x73 : List api_JNode) (x80 : Int) (x81 : Int) (r : Int × trellisref25_Reader) : Prop :=
 if x80 = 0 then
  ∃ r270 : Bool × trellisref25_Reader, (trellisref25_Reader_has (⟨x72, x73, x80, x81⟩ : trellisref25_Reader) x71 (⟨#[46]⟩ : ByteArray) r270) ∧
  trellisref25_Reader_number_j3 x71 r270.1 r270.2.s r270.2.l r270.2.e r270.2.at_ r
 else
  trellisref25_Reader_number_j3 x71 false x72 x73 x80 x81 r
def trellisref25_Reader_number_j1 (r12 : Bool × trellisref25_Reader) (x25 : Int) (r : Int × trellisref25_Reader) : Prop :=
 ∃ r29 : Bool × trellisref25_Reader, (trellisref25_Reader_has r12.2 x25 (⟨#[48]⟩ : ByteArray) r29) ∧
 if r29.1 = true then
  trellisref25_Reader_number_j2 (w64 (x25 + 1)) r29.2.s r29.2.l r29.2.e r29.2.at_ r
 else
  ∃ r284 : Int × trellisref25_Reader, (trellisref25_Reader_need r29.2 x25 (⟨#[48, 49, 50, 51, 52, 53, 54, 55, 56, 57]⟩ : ByteArray) r284) ∧
  ∃ r298 : Int × trellisref25_Reader, (trellisref25_Reader_skip r284.2 r284.1 (⟨#[48, 49, 50, 51, 52, 53, 54, 55, 56, 57]⟩ : ByteArray) r298) ∧
  trellisref25_Reader_number_j2 r298.1 r298.2.s r298.2.l r298.2.e r298.2.at_ r
def trellisref25_Reader_number (x1 : trellisref25_Reader) (x8 : Int) (r : Int × trellisref25_Reader) : Prop :=
 ∃ r12 : Bool × trellisref25_Reader, (trellisref25_Reader_has x1 x8 (⟨#[45]⟩ : ByteArray) r12) ∧
 if r12.1 = true then
  trellisref25_Reader_number_j1 r12 (w64 (x8 + 1)) r
 else
  trellisref25_Reader_number_j1 r12 x8 r
def trellisref25_IsNumber (x1 : ByteArray) (r : Bool) : Prop :=
 ∃ r7 : Int × trellisref25_Reader, (trellisref25_Reader_number (⟨x1, ([] : List api_JNode), 0, 0⟩ : trellisref25_Reader) 0 r7) ∧
 if r7.2.e = 0 then
  r = (r7.1 == (x1.size : Int))
 else
  r = false
def trellisref25_alone_j3 (x1 : api_JNode) (x32 : Bool) (r : Bool) : Prop :=
 if x32 = true then
  r = false
 else
  if x1.kind = 4 then
   ∃ r38 : Bool, (trellisref25_IsNumber x1.text r38) ∧
   r = r38
  else
   if x1.kind = 5 then
    r = true
   else
    r = (seq x1.text (⟨#[]⟩ : ByteArray))
def trellisref25_alone_j2 (x1 : api_JNode) (x27 : Bool) (r : Bool) : Prop :=
 if x1.kind < 1 then
  trellisref25_alone_j3 x1 true r
 else
  if x1.kind > 7 then
   trellisref25_alone_j3 x1 true r
  else
   if x27 = true then
    trellisref25_alone_j3 x1 false r
   else
    trellisref25_alone_j3 x1 (x1.kids != 0) r
def trellisref25_alone_j1 (x1 : api_JNode) (x23 : Bool) (r : Bool) : Prop :=
 if x23 = true then
  r = false
 else
  if x1.kind = 6 then
   trellisref25_alone_j2 x1 true r
  else
   trellisref25_alone_j2 x1 (x1.kind == 7) r
def trellisref25_alone (x1 : api_JNode) (r : Bool) : Prop :=
 ∃ r51 : Bool, (trellisref25_Valid x1.key r51) ∧
 if r51 = true then
  ∃ r60 : Bool, (trellisref25_Valid x1.text r60) ∧
  if r60 = true then
   trellisref25_alone_j1 x1 (decide (x1.kids < 0)) r
  else
   trellisref25_alone_j1 x1 true r
 else
  trellisref25_alone_j1 x1 true r
def trellisref25_kids_b1 (x6 : Int) (x1 : List api_JNode) (x29 : List Int) (x34 : Int) (x35 : Int) (o1 : Sum ((List Int) × Int × Int) (List Int)) : Prop :=
 (0 ≤ x6 ∧ x6 < (x1.length : Int)) ∧
 if x35 < (ix x1 x6).kids then
  ∃ x65 : List Int, (x65 = x29 ++ ([x34] : List Int)) ∧
  (x65.length * 8 ≤ 211106232532992) ∧
  ∃ r71 : Int, (trellisref25_Behind x1 x34 r71) ∧
  o1 = .inl (x65, r71, w64 (x35 + 1))
 else
  o1 = .inr (x29)
def trellisref25_kids (x1 : List api_JNode) (x6 : Int) (r : List Int) : Prop :=
 Rounds (fun (s : (List Int) × Int × Int) o => trellisref25_kids_b1 x6 x1 s.1 s.2.1 s.2.2 o) (([] : List Int), w64 (x6 + 1), 0) r
def trellisref25_inside_b5 (x69 : Int) (x6 : Int) (x1 : List api_JNode) (r21 : List Int) (rc_trellisref25_inside : (List api_JNode) → Int → Int → Bool → Prop) (x7 : Int) (x215 : Int) (o2 : Sum Int (Sum Int Bool)) : Prop :=
 if x215 < x69 then
  (0 ≤ x6 ∧ x6 < (x1.length : Int)) ∧
  if (ix x1 x6).kind = 7 then
   (0 ≤ x215 ∧ x215 < (r21.length : Int)) ∧
   (0 ≤ ix r21 x215 ∧ ix r21 x215 < (x1.length : Int)) ∧
   (0 ≤ x69 ∧ x69 < (r21.length : Int)) ∧
   (0 ≤ ix r21 x69 ∧ ix r21 x69 < (x1.length : Int)) ∧
   if (ix x1 (ix r21 x215)).key = (ix x1 (ix r21 x69)).key then
    o2 = .inr (.inr (false))
   else
    o2 = .inl (w64 (x215 + 1))
  else
   o2 = .inl (w64 (x215 + 1))
 else
  (0 ≤ x69 ∧ x69 < (r21.length : Int)) ∧
  ∃ r268 : Bool, (rc_trellisref25_inside x1 (ix r21 x69) (w64 (x7 + 1)) r268) ∧
  if r268 = true then
   o2 = .inr (.inl (w64 (x69 + 1)))
  else
   o2 = .inr (.inr (false))
def trellisref25_inside_j4 (x69 : Int) (x6 : Int) (x1 : List api_JNode) (r21 : List Int) (rc_trellisref25_inside : (List api_JNode) → Int → Int → Bool → Prop) (x7 : Int) (x183 : Bool) (o1 : Sum Int Bool) : Prop :=
 if x183 = true then
  o1 = .inr (false)
 else
  Rounds (fun (s : Int) o => trellisref25_inside_b5 x69 x6 x1 r21 rc_trellisref25_inside x7 s o) 0 o1
def trellisref25_inside_b3 (r21 : List Int) (x6 : Int) (x1 : List api_JNode) (rc_trellisref25_inside : (List api_JNode) → Int → Int → Bool → Prop) (x7 : Int) (x69 : Int) (o1 : Sum Int Bool) : Prop :=
 if x69 < (r21.length : Int) then
  (0 ≤ x6 ∧ x6 < (x1.length : Int)) ∧
  if (ix x1 x6).kind = 6 then
   (0 ≤ x69 ∧ x69 < (r21.length : Int)) ∧
   (0 ≤ ix r21 x69 ∧ ix r21 x69 < (x1.length : Int)) ∧
   trellisref25_inside_j4 x69 x6 x1 r21 rc_trellisref25_inside x7 (!(seq ((ix x1 (ix r21 x69)).key) (⟨#[]⟩ : ByteArray))) o1
  else
   trellisref25_inside_j4 x69 x6 x1 r21 rc_trellisref25_inside x7 false o1
 else
  o1 = .inr (true)
def trellisref25_inside_j2 (x1 : List api_JNode) (x6 : Int) (rc_trellisref25_inside : (List api_JNode) → Int → Int → Bool → Prop) (x7 : Int) (x16 : Bool) (r : Bool) : Prop :=
 if x16 = true then
  r = false
 else
  ∃ r21 : List Int, (trellisref25_kids x1 x6 r21) ∧
  Rounds (fun (s : Int) o => trellisref25_inside_b3 r21 x6 x1 rc_trellisref25_inside x7 s o) 0 r
def trellisref25_inside_j1 (x1 : List api_JNode) (x6 : Int) (rc_trellisref25_inside : (List api_JNode) → Int → Int → Bool → Prop) (x7 : Int) (x13 : Bool) (r : Bool) : Prop :=
 if x13 = true then
  trellisref25_inside_j2 x1 x6 rc_trellisref25_inside x7 (decide (x7 ≥ 64)) r
 else
  trellisref25_inside_j2 x1 x6 rc_trellisref25_inside x7 false r
def trellisref25_inside_body (rc_trellisref25_inside : (List api_JNode) → Int → Int → Bool → Prop) (x1 : List api_JNode) (x6 : Int) (x7 : Int) (r : Bool) : Prop :=
 (0 ≤ x6 ∧ x6 < (x1.length : Int)) ∧
 if (ix x1 x6).kind = 6 then
  trellisref25_inside_j1 x1 x6 rc_trellisref25_inside x7 true r
 else
  trellisref25_inside_j1 x1 x6 rc_trellisref25_inside x7 (((ix x1 x6).kind) == 7) r
def trellisref25_inside_n : Nat → (List api_JNode) → Int → Int → Bool → Prop
 | 0 => fun _ _ _ _ => False
 | n + 1 => trellisref25_inside_body (trellisref25_inside_n n)
def trellisref25_inside (x1 : List api_JNode) (x6 : Int) (x7 : Int) (r : Bool) : Prop := ∃ n, trellisref25_inside_n n x1 x6 x7 r
def trellisref25_Shaped_b2 (x1 : List api_JNode) (x42 : Int) (o1 : Sum Int Bool) : Prop :=
 if x42 < (x1.length : Int) then
  (0 ≤ x42 ∧ x42 < (x1.length : Int)) ∧
  ∃ r69 : Bool, (trellisref25_alone (ix x1 x42) r69) ∧
  if r69 = true then
   o1 = .inl (w64 (x42 + 1))
  else
   o1 = .inr (false)
 else
  ∃ r78 : Bool, (trellisref25_inside x1 0 0 r78) ∧
  o1 = .inr (r78)
def trellisref25_Shaped_j1 (x1 : List api_JNode) (x19 : Bool) (r : Bool) : Prop :=
 if x19 = true then
  r = false
 else
  Rounds (fun (s : Int) o => trellisref25_Shaped_b2 x1 s o) 0 r
def trellisref25_Shaped (x1 : List api_JNode) (r : Bool) : Prop :=
 if (x1.length : Int) = 0 then
  trellisref25_Shaped_j1 x1 true r
 else
  ∃ r87 : Int, (trellisref25_Behind x1 0 r87) ∧
  if r87 = (x1.length : Int) then
   (0 ≤ (0 : Int) ∧ (0 : Int) < (x1.length : Int)) ∧
   trellisref25_Shaped_j1 x1 (!(seq ((ix x1 0).key) (⟨#[]⟩ : ByteArray))) r
  else
   trellisref25_Shaped_j1 x1 true r
def trellisref25_Int_j4 (x43 : Int) (x29 : ByteArray) (x42 : Int) (x60 : Bool) (o1 : Sum (Int × Int) (Int × Bool)) : Prop :=
 if x60 = true then
  o1 = .inr ((0, false))
 else
  (0 ≤ x43 ∧ x43 < (x29.size : Int)) ∧
  if x42 < w64 (Int.tdiv (w64 ((-9223372036854775808) + (w64 (IntKind.u8.wrap ((bt x29 x43) - 48))))) 10) then
   o1 = .inr ((0, false))
  else
   o1 = .inl (w64 ((w64 (10 * x42)) - (w64 (IntKind.u8.wrap ((bt x29 x43) - 48)))), w64 (x43 + 1))
def trellisref25_Int_b3 (x29 : ByteArray) (x1 : List api_JNode) (x6 : Int) (x42 : Int) (x43 : Int) (o1 : Sum (Int × Int) (Int × Bool)) : Prop :=
 if x43 < (x29.size : Int) then
  (0 ≤ x43 ∧ x43 < (x29.size : Int)) ∧
  if bt x29 x43 < 48 then
   trellisref25_Int_j4 x43 x29 x42 true o1
  else
   trellisref25_Int_j4 x43 x29 x42 (decide (bt x29 x43 > 57)) o1
 else
  if bt ((ix x1 x6).text) 0 = 45 then
   o1 = .inr ((x42, true))
  else
   if x42 = -9223372036854775808 then
    o1 = .inr ((0, false))
   else
    o1 = .inr ((w64 (0 - x42), true))
def trellisref25_Int_j2 (x1 : List api_JNode) (x6 : Int) (x29 : ByteArray) (r : Int × Bool) : Prop :=
 Rounds (fun (s : Int × Int) o => trellisref25_Int_b3 x29 x1 x6 s.1 s.2 o) (0, 0) r
def trellisref25_Int_j1 (x6 : Int) (x1 : List api_JNode) (x21 : Bool) (r : Int × Bool) : Prop :=
 if x21 = true then
  r = (0, false)
 else
  (0 ≤ x6 ∧ x6 < (x1.length : Int)) ∧
  (0 ≤ (0 : Int) ∧ (0 : Int) < (((ix x1 x6).text).size : Int)) ∧
  if bt ((ix x1 x6).text) 0 = 45 then
   (0 ≤ (1 : Int) ∧ (1 : Int) ≤ (((ix x1 x6).text).size : Int) ∧ (((ix x1 x6).text).size : Int) ≤ (((ix x1 x6).text).size : Int)) ∧
   trellisref25_Int_j2 x1 x6 (((ix x1 x6).text).extract (1 : Int).toNat ((((ix x1 x6).text).size : Int) : Int).toNat) r
  else
   trellisref25_Int_j2 x1 x6 ((ix x1 x6).text) r
def trellisref25_Int (x1 : List api_JNode) (x6 : Int) (r : Int × Bool) : Prop :=
 if x6 < 0 then
  trellisref25_Int_j1 x6 x1 true r
 else
  if x6 ≥ (x1.length : Int) then
   trellisref25_Int_j1 x6 x1 true r
  else
   ∃ r74 : Bool, (trellisref25_Shaped x1 r74) ∧
   if r74 = true then
    (0 ≤ x6 ∧ x6 < (x1.length : Int)) ∧
    trellisref25_Int_j1 x6 x1 (((ix x1 x6).kind) != 4) r
   else
    trellisref25_Int_j1 x6 x1 true r
def trellisref25_Member_b2 (r27 : List Int) (x1 : List api_JNode) (x7 : ByteArray) (x43 : Int) (o1 : Sum Int Int) : Prop :=
 if x43 < (r27.length : Int) then
  (0 ≤ x43 ∧ x43 < (r27.length : Int)) ∧
  (0 ≤ ix r27 x43 ∧ ix r27 x43 < (x1.length : Int)) ∧
  if (ix x1 (ix r27 x43)).key = x7 then
   o1 = .inr (ix r27 x43)
  else
   o1 = .inl (w64 (x43 + 1))
 else
  o1 = .inr (-1)
def trellisref25_Member_j1 (x1 : List api_JNode) (x6 : Int) (x7 : ByteArray) (x22 : Bool) (r : Int) : Prop :=
 if x22 = true then
  r = -1
 else
  ∃ r27 : List Int, (trellisref25_kids x1 x6 r27) ∧
  Rounds (fun (s : Int) o => trellisref25_Member_b2 r27 x1 x7 s o) 0 r
def trellisref25_Member (x1 : List api_JNode) (x6 : Int) (x7 : ByteArray) (r : Int) : Prop :=
 if x6 < 0 then
  trellisref25_Member_j1 x1 x6 x7 true r
 else
  if x6 ≥ (x1.length : Int) then
   trellisref25_Member_j1 x1 x6 x7 true r
  else
   ∃ r59 : Bool, (trellisref25_Shaped x1 r59) ∧
   if r59 = true then
    (0 ≤ x6 ∧ x6 < (x1.length : Int)) ∧
    trellisref25_Member_j1 x1 x6 x7 (((ix x1 x6).kind) != 7) r
   else
    trellisref25_Member_j1 x1 x6 x7 true r
def trellislaw25_same_b1 (x1 : List api_JNode) (x6 : List api_JNode) (x23 : Int) (o1 : Sum Int Bool) : Prop :=
 if x23 < (x1.length : Int) then
  (0 ≤ x23 ∧ x23 < (x1.length : Int)) ∧
  (0 ≤ x23 ∧ x23 < (x6.length : Int)) ∧
  if ix x1 x23 = ix x6 x23 then
   o1 = .inl (w64 (x23 + 1))
  else
   o1 = .inr (false)
 else
  o1 = .inr (true)
def trellislaw25_same (x1 : List api_JNode) (x6 : List api_JNode) (r : Bool) : Prop :=
 if (x1.length : Int) = (x6.length : Int) then
  Rounds (fun (s : Int) o => trellislaw25_same_b1 x1 x6 s o) 0 r
 else
  r = false
def trellislaw25_spared (x1 : List api_JNode) (x6 : List api_JNode) (r : Bool) : Prop :=
 (0 ≤ (0 : Int) ∧ (0 : Int) ≤ (x6.length : Int) ∧ (x6.length : Int) ≤ (x1.length : Int)) ∧
 ∃ r16 : Bool, (trellislaw25_same (x1.take ((x6.length : Int) : Int).toNat) x6 r16) ∧
 if r16 = true then
  (0 ≤ (x6.length : Int) ∧ (x6.length : Int) < (x1.length : Int)) ∧
  if ix x1 (x6.length : Int) = (⟨0, (⟨#[109, 97, 114, 107]⟩ : ByteArray), (⟨#[]⟩ : ByteArray), 0⟩ : api_JNode) then
   (0 ≤ w64 ((x6.length : Int) + 1) ∧ w64 ((x6.length : Int) + 1) < (x1.length : Int)) ∧
   r = decide (ix x1 (w64 ((x6.length : Int) + 1)) = (⟨0, (⟨#[109, 97, 114, 107]⟩ : ByteArray), (⟨#[]⟩ : ByteArray), 0⟩ : api_JNode))
  else
   r = false
 else
  r = false
def trellislaw25_over_b1 (x20 : List api_JNode) (x22 : Int) (o1 : Sum ((List api_JNode) × Int) (List api_JNode)) : Prop :=
 if x22 < (x20.length : Int) then
  (0 ≤ w64 ((x20.length : Int) - 1) ∧ w64 ((x20.length : Int) - 1) < (x20.length : Int)) ∧
  (0 ≤ x22 ∧ x22 < (x20.length : Int)) ∧
  ∃ x37 : List api_JNode, (x37 = x20.set (x22 : Int).toNat ({ (ix x20 x22) with key := (ix x20 (w64 ((x20.length : Int) - 1))).key })) ∧
  (0 ≤ w64 ((x37.length : Int) - 1) ∧ w64 ((x37.length : Int) - 1) < (x37.length : Int)) ∧
  (0 ≤ x22 ∧ x22 < (x37.length : Int)) ∧
  ∃ x42 : List api_JNode, (x42 = x37.set (x22 : Int).toNat ({ (ix x37 x22) with text := (ix x37 (w64 ((x37.length : Int) - 1))).text })) ∧
  o1 = .inl (x42, w64 (x22 + 1))
 else
  o1 = .inr (x20)
def trellislaw25_over (x1 : List api_JNode) (r : List api_JNode) : Prop :=
 Rounds (fun (s : (List api_JNode) × Int) o => trellislaw25_over_b1 s.1 s.2 o) (x1, 0) r
def trellislaw25_JsonAsks_j7 (r569 : List api_JNode) (x666 : Int) (r578 : List api_JNode) (x103 : ByteArray) (x709 : Bool) (o2 : Sum Int (Sum Int Bool)) : Prop :=
 if x709 = true then
  ∃ r714 : Int × Bool, (json_Int r569 x666 r714) ∧
  ∃ r722 : Int × Bool, (trellisref25_Int r578 x666 r722) ∧
  ∃ r730 : Int, (json_Member r569 x666 x103 r730) ∧
  ∃ r738 : Int, (trellisref25_Member r578 x666 x103 r738) ∧
  if r730 = r738 then
   if r714.1 = r722.1 then
    if (r714.2 != r722.2) = true then
     o2 = .inr (.inr (false))
    else
     o2 = .inl (w64 (x666 + 1))
   else
    o2 = .inr (.inr (false))
  else
   o2 = .inr (.inr (false))
 else
  o2 = .inr (.inr (true))
def trellislaw25_JsonAsks_b6 (r569 : List api_JNode) (r578 : List api_JNode) (x103 : ByteArray) (x666 : Int) (o2 : Sum Int (Sum Int Bool)) : Prop :=
 if x666 < (r569.length : Int) then
  trellislaw25_JsonAsks_j7 r569 x666 r578 x103 (decide (x666 < 20)) o2
 else
  trellislaw25_JsonAsks_j7 r569 x666 r578 x103 false o2
def trellislaw25_JsonAsks_j5 (r569 : List api_JNode) (r578 : List api_JNode) (x103 : ByteArray) (x623 : Bool) (o1 : Sum Int Bool) : Prop :=
 if x623 = true then
  o1 = .inr (false)
 else
  Rounds (fun (s : Int) o => trellislaw25_JsonAsks_b6 r569 r578 x103 s o) 0 o1
def trellislaw25_JsonAsks_j4 (x45 : List api_JNode) (x325 : Int) (x103 : ByteArray) (x6 : Int) (x7 : ByteArray) (x548 : Bool) (o1 : Sum Int Bool) : Prop :=
 if x548 = true then
  ∃ r553 : Int, (json_Member x45 x325 x103 r553) ∧
  ∃ r561 : Int × Bool, (json_Int x45 x325 r561) ∧
  o1 = .inl (w64 (x325 + 1))
 else
  ∃ r569 : List api_JNode, (trellislaw25_over x45 r569) ∧
  ∃ r578 : List api_JNode, (trellislaw25_twin r569 r578) ∧
  ∃ r591 : Int × Bool, (json_Int r569 x6 r591) ∧
  ∃ r599 : Int × Bool, (trellisref25_Int r578 x6 r599) ∧
  ∃ r750 : Int, (json_Member r569 x6 x7 r750) ∧
  ∃ r758 : Int, (trellisref25_Member r578 x6 x7 r758) ∧
  if r750 = r758 then
   if r591.1 = r599.1 then
    trellislaw25_JsonAsks_j5 r569 r578 x103 (r591.2 != r599.2) o1
   else
    trellislaw25_JsonAsks_j5 r569 r578 x103 true o1
  else
   trellislaw25_JsonAsks_j5 r569 r578 x103 true o1
def trellislaw25_JsonAsks_b3 (x45 : List api_JNode) (x103 : ByteArray) (x6 : Int) (x7 : ByteArray) (x325 : Int) (o1 : Sum Int Bool) : Prop :=
 if x325 < (x45.length : Int) then
  trellislaw25_JsonAsks_j4 x45 x325 x103 x6 x7 (decide (x325 < 20)) o1
 else
  trellislaw25_JsonAsks_j4 x45 x325 x103 x6 x7 false o1
def trellislaw25_JsonAsks_j2 (x45 : List api_JNode) (x6 : Int) (x7 : ByteArray) (x103 : ByteArray) (r : Bool) : Prop :=
 Rounds (fun (s : Int) o => trellislaw25_JsonAsks_b3 x45 x103 x6 x7 s o) 0 r
def trellislaw25_JsonAsks_j1 (x1 : List api_JNode) (x45 : List api_JNode) (x6 : Int) (x7 : ByteArray) (x97 : Bool) (r : Bool) : Prop :=
 if x97 = true then
  r = false
 else
  if (x1.length : Int) > 0 then
   (0 ≤ w64 ((x1.length : Int) - 1) ∧ w64 ((x1.length : Int) - 1) < (x1.length : Int)) ∧
   trellislaw25_JsonAsks_j2 x45 x6 x7 ((ix x1 (w64 ((x1.length : Int) - 1))).key) r
  else
   trellislaw25_JsonAsks_j2 x45 x6 x7 (⟨#[]⟩ : ByteArray) r
def trellislaw25_JsonAsks (x1 : List api_JNode) (x6 : Int) (x7 : ByteArray) (r : Bool) : Prop :=
 ∃ r11 : Bool, (trellisref25_Beyond x1 r11) ∧
 if r11 = true then
  r = true
 else
  ∃ r20 : List api_JNode, (trellislaw25_twin x1 r20) ∧
  ∃ r33 : List api_JNode, (trellislaw25_roomy x1 r33) ∧
  (0 ≤ (0 : Int) ∧ (0 : Int) ≤ (x1.length : Int) ∧ (x1.length : Int) ≤ (r33.length : Int)) ∧
  ∃ x45 : List api_JNode, (x45 = r33.take ((x1.length : Int) : Int).toNat) ∧
  ∃ r51 : Int, (json_Member x45 x6 x7 r51) ∧
  ∃ r59 : Int × Bool, (json_Int x45 x6 r59) ∧
  ∃ r68 : Int × Bool, (trellisref25_Int r20 x6 r68) ∧
  ∃ r771 : Int, (trellisref25_Member r20 x6 x7 r771) ∧
  if r51 = r771 then
   if r59.1 = r68.1 then
    if (r59.2 != r68.2) = true then
     trellislaw25_JsonAsks_j1 x1 x45 x6 x7 true r
    else
     ∃ r783 : Bool, (trellislaw25_spared r33 r20 r783) ∧
     trellislaw25_JsonAsks_j1 x1 x45 x6 x7 (!r783) r
   else
    trellislaw25_JsonAsks_j1 x1 x45 x6 x7 true r
  else
   trellislaw25_JsonAsks_j1 x1 x45 x6 x7 true r
end Go.Proofs.YtmfopcbjgbphaaaDoor.R
