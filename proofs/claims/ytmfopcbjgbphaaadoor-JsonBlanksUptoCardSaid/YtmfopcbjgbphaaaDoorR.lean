/- What the functions answer, as plain relations, printed by my own tool off the program's translation. No condition. -/
import Derived.Test.YtmfopcbjgbphaaaDoorP0
import Derived.Lib.ValidU
set_option linter.unusedVariables false
namespace Go.Proofs.YtmfopcbjgbphaaaDoor.R
open Go.Proofs.YtmfopcbjgbphaaaDoor.B
def tb_0 : List Int := [0, 0, 0, 0, 0, 0, 0, 0, 98, 116, 110, 0, 102, 114, 0, 0, 0, 0, 0, 0, 0, 0, 0, 0, 0, 0, 0, 0, 0, 0, 0, 0, 0, 0, 34, 0, 0, 0, 0, 0, 0, 0, 0, 0, 0, 0, 0, 0, 0, 0, 0, 0, 0, 0, 0, 0, 0, 0, 0, 0, 0, 0, 0, 0, 0, 0, 0, 0, 0, 0, 0, 0, 0, 0, 0, 0, 0, 0, 0, 0, 0, 0, 0, 0, 0, 0, 0, 0, 0, 0, 0, 0, 92, 0, 0, 0, 0, 0, 0, 0, 0, 0, 0, 0, 0, 0, 0, 0, 0, 0, 0, 0, 0, 0, 0, 0, 0, 0, 0, 0, 0, 0, 0, 0, 0, 0, 0, 0, 0, 0, 0, 0, 0, 0, 0, 0, 0, 0, 0, 0, 0, 0, 0, 0, 0, 0, 0, 0, 0, 0, 0, 0, 0, 0, 0, 0, 0, 0, 0, 0, 0, 0, 0, 0, 0, 0, 0, 0, 0, 0, 0, 0, 0, 0, 0, 0, 0, 0, 0, 0, 0, 0, 0, 0, 0, 0, 0, 0, 0, 0, 0, 0, 0, 0, 0, 0, 0, 0, 0, 0, 0, 0, 0, 0, 0, 0, 0, 0, 0, 0, 0, 0, 0, 0, 0, 0, 0, 0, 0, 0, 0, 0, 0, 0, 0, 0, 0, 0, 0, 0, 0, 0, 0, 0, 0, 0, 0, 0, 0, 0, 0, 0, 0, 0, 0, 0, 0, 0, 0, 0, 0, 0, 0, 0, 0, 0]
def tb_1 : List Int := [240, 240, 240, 240, 240, 240, 240, 240, 240, 240, 240, 240, 240, 240, 240, 240, 240, 240, 240, 240, 240, 240, 240, 240, 240, 240, 240, 240, 240, 240, 240, 240, 240, 240, 240, 240, 240, 240, 240, 240, 240, 240, 240, 240, 240, 240, 240, 240, 240, 240, 240, 240, 240, 240, 240, 240, 240, 240, 240, 240, 240, 240, 240, 240, 240, 240, 240, 240, 240, 240, 240, 240, 240, 240, 240, 240, 240, 240, 240, 240, 240, 240, 240, 240, 240, 240, 240, 240, 240, 240, 240, 240, 240, 240, 240, 240, 240, 240, 240, 240, 240, 240, 240, 240, 240, 240, 240, 240, 240, 240, 240, 240, 240, 240, 240, 240, 240, 240, 240, 240, 240, 240, 240, 240, 240, 240, 240, 240, 241, 241, 241, 241, 241, 241, 241, 241, 241, 241, 241, 241, 241, 241, 241, 241, 241, 241, 241, 241, 241, 241, 241, 241, 241, 241, 241, 241, 241, 241, 241, 241, 241, 241, 241, 241, 241, 241, 241, 241, 241, 241, 241, 241, 241, 241, 241, 241, 241, 241, 241, 241, 241, 241, 241, 241, 241, 241, 241, 241, 241, 241, 241, 241, 241, 241, 2, 2, 2, 2, 2, 2, 2, 2, 2, 2, 2, 2, 2, 2, 2, 2, 2, 2, 2, 2, 2, 2, 2, 2, 2, 2, 2, 2, 2, 2, 19, 3, 3, 3, 3, 3, 3, 3, 3, 3, 3, 3, 3, 35, 3, 3, 52, 4, 4, 4, 68, 241, 241, 241, 241, 241, 241, 241, 241, 241, 241, 241]
def tb_2 : List Int := [128, 191, 160, 191, 128, 159, 144, 191, 128, 143, 0, 0, 0, 0, 0, 0, 0, 0, 0, 0, 0, 0, 0, 0, 0, 0, 0, 0, 0, 0, 0, 0]
def tb_3 : List Int := [0, 0, 0, 0, 0, 0, 0, 0, 0, 0, 0, 0, 0, 0, 0, 0, 0, 0, 0, 0, 0, 0, 0, 0, 0, 0, 0, 0, 0, 0, 0, 0, 0, 0, 34, 0, 0, 0, 0, 0, 0, 0, 0, 0, 0, 0, 0, 47, 0, 0, 0, 0, 0, 0, 0, 0, 0, 0, 0, 0, 0, 0, 0, 0, 0, 0, 0, 0, 0, 0, 0, 0, 0, 0, 0, 0, 0, 0, 0, 0, 0, 0, 0, 0, 0, 0, 0, 0, 0, 0, 0, 0, 92, 0, 0, 0, 0, 0, 8, 0, 0, 0, 12, 0, 0, 0, 0, 0, 0, 0, 10, 0, 0, 0, 13, 0, 9, 0, 0, 0, 0, 0, 0, 0, 0, 0, 0, 0, 0, 0, 0, 0, 0, 0, 0, 0, 0, 0, 0, 0, 0, 0, 0, 0, 0, 0, 0, 0, 0, 0, 0, 0, 0, 0, 0, 0, 0, 0, 0, 0, 0, 0, 0, 0, 0, 0, 0, 0, 0, 0, 0, 0, 0, 0, 0, 0, 0, 0, 0, 0, 0, 0, 0, 0, 0, 0, 0, 0, 0, 0, 0, 0, 0, 0, 0, 0, 0, 0, 0, 0, 0, 0, 0, 0, 0, 0, 0, 0, 0, 0, 0, 0, 0, 0, 0, 0, 0, 0, 0, 0, 0, 0, 0, 0, 0, 0, 0, 0, 0, 0, 0, 0, 0, 0, 0, 0, 0, 0, 0, 0, 0, 0, 0, 0, 0, 0, 0, 0, 0, 0, 0, 0, 0, 0, 0, 0]
structure JNd where
 kind : Int
 key : ByteArray
 text : ByteArray
 kids : Int
 deriving Inhabited, DecidableEq
structure jps where
 text : ByteArray
 at_ : Int
 out : List JNd
 in_ : Int
 code : Int
 deriving Inhabited, DecidableEq
structure tf_Reader where
 s : ByteArray
 l : List JNd
 e : Int
 at_ : Int
 deriving Inhabited, DecidableEq
structure strings_Builder where
 addr : Bool
 buf : List Int
 deriving Inhabited
def unicode_utf8_ValidString (x1 : ByteArray) (r : Bool) : Prop :=
 (x1.size ≤ 9223372036854775807) ∧ r = Lib.validD x1.data.toList
def internal_stringslite_IndexByte (x1 : ByteArray) (x2 : Int) (r : Int) : Prop :=
 r = idxB x1 x2
def strings_IndexByte (x1 : ByteArray) (x2 : Int) (r : Int) : Prop :=
 ∃ r6 : Int, (internal_stringslite_IndexByte x1 x2 r6) ∧
 r = r6
def jps_is (x1 : jps) (x10 : ByteArray) (r : Bool × jps) : Prop :=
 if x1.at_ < (x1.text.size : Int) then
  (0 ≤ x1.at_ ∧ x1.at_ < (x1.text.size : Int)) ∧
  ∃ r16 : Int, (strings_IndexByte x10 (bt x1.text x1.at_) r16) ∧
  r = (decide (r16 ≥ 0), x1)
 else
  r = (false, x1)
def jps_take (x1 : jps) (x10 : ByteArray) (r : Bool × jps) : Prop :=
 ∃ r14 : Bool × jps, (jps_is x1 x10 r14) ∧
 if r14.1 = true then
  r = (true, (⟨r14.2.text, w64 (r14.2.at_ + 1), r14.2.out, r14.2.in_, r14.2.code⟩ : jps))
 else
  r = (false, r14.2)
def jps_digits_b1 (x39 : ByteArray) (x40 : Int) (x41 : List JNd) (x46 : Int) (x47 : Int) (o1 : Sum (ByteArray × Int × (List JNd) × Int × Int) (Bool × jps)) : Prop :=
 ∃ r65 : Bool × jps, (jps_is (⟨x39, x40, x41, x46, x47⟩ : jps) (⟨#[48, 49, 50, 51, 52, 53, 54, 55, 56, 57]⟩ : ByteArray) r65) ∧
 if r65.1 = true then
  o1 = .inl (r65.2.text, w64 (r65.2.at_ + 1), r65.2.out, r65.2.in_, r65.2.code)
 else
  o1 = .inr ((true, r65.2))
def jps_digits (x1 : jps) (r : Bool × jps) : Prop :=
 ∃ r13 : Bool × jps, (jps_take x1 (⟨#[48, 49, 50, 51, 52, 53, 54, 55, 56, 57]⟩ : ByteArray) r13) ∧
 if r13.1 = true then
  Rounds (fun (s : ByteArray × Int × (List JNd) × Int × Int) o => jps_digits_b1 s.1 s.2.1 s.2.2.1 s.2.2.2.1 s.2.2.2.2 o) (r13.2.text, r13.2.at_, r13.2.out, r13.2.in_, r13.2.code) r
 else
  r = (false, r13.2)
def jps_number_j4 (r120 : Bool × jps) (x132 : Int) (r : Bool × jps) : Prop :=
 ∃ r136 : Bool × jps, (jps_digits (⟨r120.2.text, x132, r120.2.out, r120.2.in_, r120.2.code⟩ : jps) r136) ∧
 r = (r136.1, r136.2)
def jps_number_j3 (x94 : ByteArray) (x95 : Int) (x96 : List JNd) (x101 : Int) (x102 : Int) (r : Bool × jps) : Prop :=
 ∃ r106 : Bool × jps, (jps_is (⟨x94, x95, x96, x101, x102⟩ : jps) (⟨#[101, 69]⟩ : ByteArray) r106) ∧
 if r106.1 = true then
  ∃ r120 : Bool × jps, (jps_is (⟨r106.2.text, w64 (r106.2.at_ + 1), r106.2.out, r106.2.in_, r106.2.code⟩ : jps) (⟨#[43, 45]⟩ : ByteArray) r120) ∧
  if r120.1 = true then
   jps_number_j4 r120 (w64 (r120.2.at_ + 1)) r
  else
   jps_number_j4 r120 r120.2.at_ r
 else
  r = (true, r106.2)
def jps_number_j2 (x55 : ByteArray) (x56 : Int) (x57 : List JNd) (x62 : Int) (x63 : Int) (r : Bool × jps) : Prop :=
 ∃ r68 : Bool × jps, (jps_is (⟨x55, x56, x57, x62, x63⟩ : jps) (⟨#[46]⟩ : ByteArray) r68) ∧
 if r68.1 = true then
  ∃ r149 : Bool × jps, (jps_digits (⟨r68.2.text, w64 (r68.2.at_ + 1), r68.2.out, r68.2.in_, r68.2.code⟩ : jps) r149) ∧
  if r149.1 = true then
   jps_number_j3 r149.2.text r149.2.at_ r149.2.out r149.2.in_ r149.2.code r
  else
   r = (false, r149.2)
 else
  jps_number_j3 r68.2.text r68.2.at_ r68.2.out r68.2.in_ r68.2.code r
def jps_number_j1 (r13 : Bool × jps) (x25 : Int) (r : Bool × jps) : Prop :=
 ∃ r29 : Bool × jps, (jps_is (⟨r13.2.text, x25, r13.2.out, r13.2.in_, r13.2.code⟩ : jps) (⟨#[48]⟩ : ByteArray) r29) ∧
 if r29.1 = true then
  jps_number_j2 r29.2.text (w64 (r29.2.at_ + 1)) r29.2.out r29.2.in_ r29.2.code r
 else
  ∃ r163 : Bool × jps, (jps_digits r29.2 r163) ∧
  if r163.1 = true then
   jps_number_j2 r163.2.text r163.2.at_ r163.2.out r163.2.in_ r163.2.code r
  else
   r = (false, r163.2)
def jps_number (x1 : jps) (r : Bool × jps) : Prop :=
 ∃ r13 : Bool × jps, (jps_is x1 (⟨#[45]⟩ : ByteArray) r13) ∧
 if r13.1 = true then
  jps_number_j1 r13 (w64 (r13.2.at_ + 1)) r
 else
  jps_number_j1 r13 r13.2.at_ r
def json_sound_j3 (x1 : JNd) (x101 : Bool) (r : Bool) : Prop :=
 if x101 = true then
  if x1.kids = 0 then
   r = (seq x1.text (⟨#[]⟩ : ByteArray))
  else
   r = false
 else
  r = false
def json_sound_j2 (x1 : JNd) (x18 : Bool) (r : Bool) : Prop :=
 if x18 = true then
  r = (seq x1.text (⟨#[]⟩ : ByteArray))
 else
  if x1.kind = 4 then
   if x1.kids = 0 then
    if x1.text = (⟨#[]⟩ : ByteArray) then
     r = false
    else
     ∃ r34 : Bool × jps, (jps_number (⟨x1.text, 0, ([] : List JNd), 0, 0⟩ : jps) r34) ∧
     if r34.1 = true then
      r = (r34.2.at_ == (x1.text.size : Int))
     else
      r = false
   else
    r = false
  else
   if x1.kind = 5 then
    if x1.kids = 0 then
     ∃ r93 : Bool, (unicode_utf8_ValidString x1.text r93) ∧
     r = r93
    else
     r = false
   else
    if x1.kind = 1 then
     json_sound_j3 x1 (x1.kind == 1) r
    else
     if x1.kind = 2 then
      json_sound_j3 x1 (x1.kind == 2) r
     else
      json_sound_j3 x1 (x1.kind == 3) r
def json_sound_j1 (x1 : JNd) (x14 : Bool) (r : Bool) : Prop :=
 if x14 = true then
  r = false
 else
  if x1.kind = 6 then
   json_sound_j2 x1 (x1.kind == 6) r
  else
   json_sound_j2 x1 (x1.kind == 7) r
def json_sound (x1 : JNd) (r : Bool) : Prop :=
 if x1.kids < 0 then
  json_sound_j1 x1 true r
 else
  ∃ r109 : Bool, (unicode_utf8_ValidString x1.key r109) ∧
  json_sound_j1 x1 (!r109) r
def json_subtree_b3 (x1 : List JNd) (x6 : Int) (rc_json_subtree : (List JNd) → Int → Int → Bool → Int → Prop) (x7 : Int) (x53 : Int) (x54 : Int) (x55 : ByteArray → Int) (o1 : Sum (Int × Int × (ByteArray → Int)) Int) : Prop :=
 if x54 < (ix x1 x6).kids then
  ∃ r75 : Int, (rc_json_subtree x1 x53 (w64 (x7 + 1)) (((ix x1 x6).kind) == 7) r75) ∧
  if r75 < 0 then
   o1 = .inr (-1)
  else
   if (ix x1 x6).kind = 7 then
    (0 ≤ x53 ∧ x53 < (x1.length : Int)) ∧
    if x55 ((ix x1 x53).key) > 0 then
     o1 = .inr (-1)
    else
     o1 = .inl (r75, w64 (x54 + 1), (updM x55 ((ix x1 x53).key) 1))
   else
    o1 = .inl (r75, w64 (x54 + 1), x55)
 else
  o1 = .inr (x53)
def json_subtree_j2 (x6 : Int) (x7 : Int) (x1 : List JNd) (rc_json_subtree : (List JNd) → Int → Int → Bool → Int → Prop) (x32 : Bool) (r : Int) : Prop :=
 if x32 = true then
  r = w64 (x6 + 1)
 else
  if x7 ≥ 64 then
   r = -1
  else
   Rounds (fun (s : Int × Int × (ByteArray → Int)) o => json_subtree_b3 x1 x6 rc_json_subtree x7 s.1 s.2.1 s.2.2 o) (w64 (x6 + 1), 0, (fun _ => 0)) r
def json_subtree_j1 (x6 : Int) (x1 : List JNd) (x7 : Int) (rc_json_subtree : (List JNd) → Int → Int → Bool → Int → Prop) (x24 : Bool) (r : Int) : Prop :=
 if x24 = true then
  r = -1
 else
  (0 ≤ x6 ∧ x6 < (x1.length : Int)) ∧
  if (ix x1 x6).kind = 6 then
   json_subtree_j2 x6 x7 x1 rc_json_subtree false r
  else
   json_subtree_j2 x6 x7 x1 rc_json_subtree (((ix x1 x6).kind) != 7) r
def json_subtree_body (rc_json_subtree : (List JNd) → Int → Int → Bool → Int → Prop) (x1 : List JNd) (x6 : Int) (x7 : Int) (x8 : Bool) (r : Int) : Prop :=
 if x6 ≥ (x1.length : Int) then
  json_subtree_j1 x6 x1 x7 rc_json_subtree true r
 else
  (0 ≤ x6 ∧ x6 < (x1.length : Int)) ∧
  ∃ r93 : Bool, (json_sound (ix x1 x6) r93) ∧
  if r93 = true then
   if x8 = true then
    json_subtree_j1 x6 x1 x7 rc_json_subtree false r
   else
    json_subtree_j1 x6 x1 x7 rc_json_subtree (!(seq ((ix x1 x6).key) (⟨#[]⟩ : ByteArray))) r
  else
   json_subtree_j1 x6 x1 x7 rc_json_subtree true r
def json_subtree_n : Nat → (List JNd) → Int → Int → Bool → Int → Prop
 | 0 => fun _ _ _ _ _ => False
 | n + 1 => json_subtree_body (json_subtree_n n)
def json_subtree (x1 : List JNd) (x6 : Int) (x7 : Int) (x8 : Bool) (r : Int) : Prop := ∃ n, json_subtree_n n x1 x6 x7 x8 r
def json_Shaped (x1 : List JNd) (r : Bool) : Prop :=
 if (x1.length : Int) > 0 then
  ∃ r10 : Int, (json_subtree x1 0 0 false r10) ∧
  r = (r10 == (x1.length : Int))
 else
  r = false
def json_size_b1 (x6 : Int) (x1 : List JNd) (x13 : Int) (x14 : Int) (o1 : Sum (Int × Int) Int) : Prop :=
 if x14 > 0 then
  (0 ≤ w64 (x6 + x13) ∧ w64 (x6 + x13) < (x1.length : Int)) ∧
  o1 = .inl (w64 (x13 + 1), w64 ((w64 (x14 + ((ix x1 (w64 (x6 + x13))).kids))) - 1))
 else
  o1 = .inr (x13)
def json_size (x1 : List JNd) (x6 : Int) (r : Int) : Prop :=
 (0 ≤ x6 ∧ x6 < (x1.length : Int)) ∧
 Rounds (fun (s : Int × Int) o => json_size_b1 x6 x1 s.1 s.2 o) (1, (ix x1 x6).kids) r
def json_Member_b2 (x1 : List JNd) (x6 : Int) (x7 : ByteArray) (x39 : Int) (x40 : Int) (o1 : Sum (Int × Int) Int) : Prop :=
 if x40 < (ix x1 x6).kids then
  (0 ≤ x39 ∧ x39 < (x1.length : Int)) ∧
  if (ix x1 x39).key = x7 then
   o1 = .inr (x39)
  else
   ∃ r60 : Int, (json_size x1 x39 r60) ∧
   o1 = .inl (w64 (x39 + r60), w64 (x40 + 1))
 else
  o1 = .inr (-1)
def json_Member_j1 (x6 : Int) (x1 : List JNd) (x7 : ByteArray) (x22 : Bool) (r : Int) : Prop :=
 if x22 = true then
  r = -1
 else
  (0 ≤ x6 ∧ x6 < (x1.length : Int)) ∧
  Rounds (fun (s : Int × Int) o => json_Member_b2 x1 x6 x7 s.1 s.2 o) (w64 (x6 + 1), 0) r
def json_Member (x1 : List JNd) (x6 : Int) (x7 : ByteArray) (r : Int) : Prop :=
 if x6 < 0 then
  json_Member_j1 x6 x1 x7 true r
 else
  if x6 ≥ (x1.length : Int) then
   json_Member_j1 x6 x1 x7 true r
  else
   (0 ≤ x6 ∧ x6 < (x1.length : Int)) ∧
   if (ix x1 x6).kind = 7 then
    ∃ r73 : Bool, (json_Shaped x1 r73) ∧
    json_Member_j1 x6 x1 x7 (!r73) r
   else
    json_Member_j1 x6 x1 x7 true r
def internal_stringslite_HasPrefix (x1 : ByteArray) (x2 : ByteArray) (r : Bool) : Prop :=
 if (x1.size : Int) ≥ (x2.size : Int) then
  (0 ≤ (0 : Int) ∧ (0 : Int) ≤ (x2.size : Int) ∧ (x2.size : Int) ≤ (x1.size : Int)) ∧
  r = (seq (x1.extract (0 : Int).toNat ((x2.size : Int) : Int).toNat) x2)
 else
  r = false
def internal_stringslite_CutPrefix (x1 : ByteArray) (x2 : ByteArray) (r : ByteArray × Bool) : Prop :=
 ∃ r6 : Bool, (internal_stringslite_HasPrefix x1 x2 r6) ∧
 if r6 = true then
  (0 ≤ (x2.size : Int) ∧ (x2.size : Int) ≤ (x1.size : Int) ∧ (x1.size : Int) ≤ (x1.size : Int)) ∧
  r = (x1.extract ((x2.size : Int) : Int).toNat ((x1.size : Int) : Int).toNat, true)
 else
  r = (x1, false)
def strings_CutPrefix (x1 : ByteArray) (x2 : ByteArray) (r : ByteArray × Bool) : Prop :=
 ∃ r6 : ByteArray × Bool, (internal_stringslite_CutPrefix x1 x2 r6) ∧
 r = (r6.1, r6.2)
def json_Int_j3 (x46 : Int) (r28 : ByteArray × Bool) (x45 : Int) (x63 : Bool) (o1 : Sum (Int × Int) (Int × Bool)) : Prop :=
 if x63 = true then
  o1 = .inr ((0, false))
 else
  (0 ≤ x46 ∧ x46 < (r28.1.size : Int)) ∧
  if x45 > IntKind.u64.wrap (Int.tdiv (IntKind.u64.wrap (9223372036854775808 - (IntKind.u64.wrap (IntKind.u8.wrap ((bt r28.1 x46) - 48))))) 10) then
   o1 = .inr ((0, false))
  else
   o1 = .inl (IntKind.u64.wrap ((IntKind.u64.wrap (10 * x45)) + (IntKind.u64.wrap (IntKind.u8.wrap ((bt r28.1 x46) - 48)))), w64 (x46 + 1))
def json_Int_b2 (r28 : ByteArray × Bool) (x45 : Int) (x46 : Int) (o1 : Sum (Int × Int) (Int × Bool)) : Prop :=
 if x46 < (r28.1.size : Int) then
  (0 ≤ x46 ∧ x46 < (r28.1.size : Int)) ∧
  if bt r28.1 x46 < 48 then
   json_Int_j3 x46 r28 x45 true o1
  else
   json_Int_j3 x46 r28 x45 (decide (bt r28.1 x46 > 57)) o1
 else
  if r28.2 = true then
   o1 = .inr ((w64 (IntKind.u64.wrap (0 - x45)), true))
  else
   if x45 > 9223372036854775807 then
    o1 = .inr ((0, false))
   else
    o1 = .inr ((w64 (x45), true))
def json_Int_j1 (x6 : Int) (x1 : List JNd) (x21 : Bool) (r : Int × Bool) : Prop :=
 if x21 = true then
  r = (0, false)
 else
  (0 ≤ x6 ∧ x6 < (x1.length : Int)) ∧
  ∃ r28 : ByteArray × Bool, (strings_CutPrefix ((ix x1 x6).text) (⟨#[45]⟩ : ByteArray) r28) ∧
  Rounds (fun (s : Int × Int) o => json_Int_b2 r28 s.1 s.2 o) (0, 0) r
def json_Int (x1 : List JNd) (x6 : Int) (r : Int × Bool) : Prop :=
 if x6 < 0 then
  json_Int_j1 x6 x1 true r
 else
  if x6 ≥ (x1.length : Int) then
   json_Int_j1 x6 x1 true r
  else
   (0 ≤ x6 ∧ x6 < (x1.length : Int)) ∧
   if (ix x1 x6).kind = 4 then
    ∃ r79 : Bool, (json_Shaped x1 r79) ∧
    json_Int_j1 x6 x1 (!r79) r
   else
    json_Int_j1 x6 x1 true r
def tl_same_b1 (x1 : List JNd) (x6 : List JNd) (x23 : Int) (o1 : Sum Int Bool) : Prop :=
 if x23 < (x1.length : Int) then
  (0 ≤ x23 ∧ x23 < (x1.length : Int)) ∧
  (0 ≤ x23 ∧ x23 < (x6.length : Int)) ∧
  if ix x1 x23 = ix x6 x23 then
   o1 = .inl (w64 (x23 + 1))
  else
   o1 = .inr (false)
 else
  o1 = .inr (true)
def tl_same (x1 : List JNd) (x6 : List JNd) (r : Bool) : Prop :=
 if (x1.length : Int) = (x6.length : Int) then
  Rounds (fun (s : Int) o => tl_same_b1 x1 x6 s o) 0 r
 else
  r = false
def strings_Builder_copyCheck (x1 : strings_Builder) (r : strings_Builder) : Prop :=
 if x1.addr = true then
  r = x1
 else
  r = (⟨true, x1.buf⟩ : strings_Builder)
def strings_Builder_WriteByte (x1 : strings_Builder) (x9 : Int) (r : strings_Builder) : Prop :=
 ∃ r13 : strings_Builder, (strings_Builder_copyCheck x1 r13) ∧
 ∃ x24 : List Int, (x24 = x1.buf ++ ([x9] : List Int)) ∧
 (x24.length * 1 ≤ 211106232532992) ∧
 r = (⟨r13.addr, x24⟩ : strings_Builder)
def strings_Builder_WriteString (x1 : strings_Builder) (x9 : ByteArray) (r : Int × strings_Builder) : Prop :=
 ∃ r13 : strings_Builder, (strings_Builder_copyCheck x1 r13) ∧
 ∃ x21 : List Int, (x21 = x1.buf ++ bsOf x9) ∧
 (x21.length * 1 ≤ 211106232532992) ∧
 r = ((x9.size : Int), (⟨r13.addr, x21⟩ : strings_Builder))
def json_quote_b1 (x9 : ByteArray) (x122 : Int) (x123 : Bool) (x124 : List Int) (o1 : Sum (Int × Bool × (List Int)) strings_Builder) : Prop :=
 if x122 < (x9.size : Int) then
  (0 ≤ x122 ∧ x122 < (x9.size : Int)) ∧
  (0 ≤ bt x9 x122 ∧ bt x9 x122 < 256) ∧
  if ix tb_0 (bt x9 x122) = 0 then
   if bt x9 x122 < 32 then
    ∃ r235 : Int × strings_Builder, (strings_Builder_WriteString (⟨x123, x124⟩ : strings_Builder) (⟨#[92, 117, 48, 48]⟩ : ByteArray) r235) ∧
    (0 ≤ IntKind.u8.wrap (Int.tdiv (bt x9 x122) 16) ∧ IntKind.u8.wrap (Int.tdiv (bt x9 x122) 16) < ((⟨#[48, 49, 50, 51, 52, 53, 54, 55, 56, 57, 97, 98, 99, 100, 101, 102]⟩ : ByteArray).size : Int)) ∧
    ∃ r249 : strings_Builder, (strings_Builder_WriteByte r235.2 (bt (⟨#[48, 49, 50, 51, 52, 53, 54, 55, 56, 57, 97, 98, 99, 100, 101, 102]⟩ : ByteArray) (IntKind.u8.wrap (Int.tdiv (bt x9 x122) 16))) r249) ∧
    (0 ≤ Int.tmod (bt x9 x122) 16 ∧ Int.tmod (bt x9 x122) 16 < ((⟨#[48, 49, 50, 51, 52, 53, 54, 55, 56, 57, 97, 98, 99, 100, 101, 102]⟩ : ByteArray).size : Int)) ∧
    ∃ r263 : strings_Builder, (strings_Builder_WriteByte r249 (bt (⟨#[48, 49, 50, 51, 52, 53, 54, 55, 56, 57, 97, 98, 99, 100, 101, 102]⟩ : ByteArray) (Int.tmod (bt x9 x122) 16)) r263) ∧
    o1 = .inl (w64 (x122 + 1), r263.addr, r263.buf)
   else
    ∃ r276 : strings_Builder, (strings_Builder_WriteByte (⟨x123, x124⟩ : strings_Builder) (bt x9 x122) r276) ∧
    o1 = .inl (w64 (x122 + 1), r276.addr, r276.buf)
  else
   ∃ r289 : strings_Builder, (strings_Builder_WriteByte (⟨x123, x124⟩ : strings_Builder) 92 r289) ∧
   ∃ r302 : strings_Builder, (strings_Builder_WriteByte r289 (ix tb_0 (bt x9 x122)) r302) ∧
   o1 = .inl (w64 (x122 + 1), r302.addr, r302.buf)
 else
  ∃ r315 : strings_Builder, (strings_Builder_WriteByte (⟨x123, x124⟩ : strings_Builder) 34 r315) ∧
  o1 = .inr (r315)
def json_quote (x1 : strings_Builder) (x9 : ByteArray) (r : strings_Builder) : Prop :=
 ∃ r13 : strings_Builder, (strings_Builder_WriteByte x1 34 r13) ∧
 Rounds (fun (s : Int × Bool × (List Int)) o => json_quote_b1 x9 s.1 s.2.1 s.2.2 o) (0, r13.addr, r13.buf) r
def json_Print_1_b3 (x2 : List JNd) (x9 : Int) (rc_json_Print_1 : Bool → (List JNd) → Int → strings_Builder → ((List JNd) × Int × strings_Builder) → Prop) (x132 : ByteArray) (x182 : Int) (x183 : Bool) (x184 : List Int) (x189 : List JNd) (x196 : Int) (o1 : Sum (Int × Bool × (List Int) × (List JNd) × Int) ((List JNd) × Int × strings_Builder)) : Prop :=
 if x182 < (ix x2 x9).kids then
  if x182 > 0 then
   ∃ r269 : strings_Builder, (strings_Builder_WriteByte (⟨x183, x184⟩ : strings_Builder) 44 r269) ∧
   ∃ r282 : (List JNd) × Int × strings_Builder, (rc_json_Print_1 (((ix x2 x9).kind) == 7) x189 x196 r269 r282) ∧
   o1 = .inl (w64 (x182 + 1), r282.2.2.addr, r282.2.2.buf, r282.1, r282.2.1)
  else
   ∃ r301 : (List JNd) × Int × strings_Builder, (rc_json_Print_1 (((ix x2 x9).kind) == 7) x189 x196 (⟨x183, x184⟩ : strings_Builder) r301) ∧
   o1 = .inl (w64 (x182 + 1), r301.2.2.addr, r301.2.2.buf, r301.1, r301.2.1)
 else
  (0 ≤ (1 : Int) ∧ (1 : Int) < (x132.size : Int)) ∧
  ∃ r321 : strings_Builder, (strings_Builder_WriteByte (⟨x183, x184⟩ : strings_Builder) (bt x132 1) r321) ∧
  o1 = .inr ((x189, x196, r321))
def json_Print_1_j2 (x54 : Bool) (x55 : List Int) (x2 : List JNd) (x9 : Int) (rc_json_Print_1 : Bool → (List JNd) → Int → strings_Builder → ((List JNd) × Int × strings_Builder) → Prop) (x132 : ByteArray) (r : (List JNd) × Int × strings_Builder) : Prop :=
 (0 ≤ (0 : Int) ∧ (0 : Int) < (x132.size : Int)) ∧
 ∃ r137 : strings_Builder, (strings_Builder_WriteByte (⟨x54, x55⟩ : strings_Builder) (bt x132 0) r137) ∧
 Rounds (fun (s : Int × Bool × (List Int) × (List JNd) × Int) o => json_Print_1_b3 x2 x9 rc_json_Print_1 x132 s.1 s.2.1 s.2.2.1 s.2.2.2.1 s.2.2.2.2 o) (0, r137.addr, r137.buf, x2, w64 (x9 + 1)) r
def json_Print_1_j1 (x2 : List JNd) (x9 : Int) (rc_json_Print_1 : Bool → (List JNd) → Int → strings_Builder → ((List JNd) × Int × strings_Builder) → Prop) (x54 : Bool) (x55 : List Int) (r : (List JNd) × Int × strings_Builder) : Prop :=
 if (ix x2 x9).kind = 1 then
  ∃ r64 : Int × strings_Builder, (strings_Builder_WriteString (⟨x54, x55⟩ : strings_Builder) (⟨#[110, 117, 108, 108]⟩ : ByteArray) r64) ∧
  r = (x2, w64 (x9 + 1), r64.2)
 else
  if (ix x2 x9).kind = 2 then
   ∃ r78 : Int × strings_Builder, (strings_Builder_WriteString (⟨x54, x55⟩ : strings_Builder) (⟨#[102, 97, 108, 115, 101]⟩ : ByteArray) r78) ∧
   r = (x2, w64 (x9 + 1), r78.2)
  else
   if (ix x2 x9).kind = 3 then
    ∃ r92 : Int × strings_Builder, (strings_Builder_WriteString (⟨x54, x55⟩ : strings_Builder) (⟨#[116, 114, 117, 101]⟩ : ByteArray) r92) ∧
    r = (x2, w64 (x9 + 1), r92.2)
   else
    if (ix x2 x9).kind = 4 then
     ∃ r106 : Int × strings_Builder, (strings_Builder_WriteString (⟨x54, x55⟩ : strings_Builder) ((ix x2 x9).text) r106) ∧
     r = (x2, w64 (x9 + 1), r106.2)
    else
     if (ix x2 x9).kind = 5 then
      ∃ r120 : strings_Builder, (json_quote (⟨x54, x55⟩ : strings_Builder) ((ix x2 x9).text) r120) ∧
      r = (x2, w64 (x9 + 1), r120)
     else
      if (ix x2 x9).kind = 7 then
       json_Print_1_j2 x54 x55 x2 x9 rc_json_Print_1 (⟨#[123, 125]⟩ : ByteArray) r
      else
       json_Print_1_j2 x54 x55 x2 x9 rc_json_Print_1 (⟨#[91, 93]⟩ : ByteArray) r
def json_Print_1_body (rc_json_Print_1 : Bool → (List JNd) → Int → strings_Builder → ((List JNd) × Int × strings_Builder) → Prop) (x1 : Bool) (x2 : List JNd) (x9 : Int) (x12 : strings_Builder) (r : (List JNd) × Int × strings_Builder) : Prop :=
 (0 ≤ x9 ∧ x9 < (x2.length : Int)) ∧
 if x1 = true then
  ∃ r334 : strings_Builder, (json_quote x12 ((ix x2 x9).key) r334) ∧
  ∃ r347 : strings_Builder, (strings_Builder_WriteByte r334 58 r347) ∧
  json_Print_1_j1 x2 x9 rc_json_Print_1 r347.addr r347.buf r
 else
  json_Print_1_j1 x2 x9 rc_json_Print_1 x12.addr x12.buf r
def json_Print_1_n : Nat → Bool → (List JNd) → Int → strings_Builder → ((List JNd) × Int × strings_Builder) → Prop
 | 0 => fun _ _ _ _ _ => False
 | n + 1 => json_Print_1_body (json_Print_1_n n)
def json_Print_1 (x1 : Bool) (x2 : List JNd) (x9 : Int) (x12 : strings_Builder) (r : (List JNd) × Int × strings_Builder) : Prop := ∃ n, json_Print_1_n n x1 x2 x9 x12 r
def strings_Builder_String (x1 : strings_Builder) (r : ByteArray) : Prop :=
 r = ofBs x1.buf
def json_Print (x1 : List JNd) (r : ByteArray × Int) : Prop :=
 ∃ r11 : Bool, (json_Shaped x1 r11) ∧
 if r11 = true then
  ∃ r27 : (List JNd) × Int × strings_Builder, (json_Print_1 false x1 0 (⟨false, ([] : List Int)⟩ : strings_Builder) r27) ∧
  ∃ r46 : ByteArray, (strings_Builder_String r27.2.2 r46) ∧
  r = (r46, 0)
 else
  r = ((⟨#[]⟩ : ByteArray), 43)
def jps_blanks_b1 (x25 : ByteArray) (x26 : Int) (x27 : List JNd) (x32 : Int) (x33 : Int) (o1 : Sum (ByteArray × Int × (List JNd) × Int × Int) jps) : Prop :=
 ∃ r51 : Bool × jps, (jps_is (⟨x25, x26, x27, x32, x33⟩ : jps) (⟨#[32, 9, 10, 13]⟩ : ByteArray) r51) ∧
 if r51.1 = true then
  o1 = .inl (r51.2.text, w64 (r51.2.at_ + 1), r51.2.out, r51.2.in_, r51.2.code)
 else
  o1 = .inr (r51.2)
def jps_blanks (x1 : jps) (r : jps) : Prop :=
 Rounds (fun (s : ByteArray × Int × (List JNd) × Int × Int) o => jps_blanks_b1 s.1 s.2.1 s.2.2.1 s.2.2.2.1 s.2.2.2.2 o) (x1.text, x1.at_, x1.out, x1.in_, x1.code) r
def jps_word_b1 (x10 : ByteArray) (x28 : Int) (x29 : ByteArray) (x30 : Int) (x31 : List JNd) (x36 : Int) (x37 : Int) (o1 : Sum (Int × ByteArray × Int × (List JNd) × Int × Int) (Bool × jps)) : Prop :=
 if x28 < (x10.size : Int) then
  (0 ≤ x28 ∧ x28 ≤ w64 (x28 + 1) ∧ w64 (x28 + 1) ≤ (x10.size : Int)) ∧
  ∃ r59 : Bool × jps, (jps_take (⟨x29, x30, x31, x36, x37⟩ : jps) (x10.extract (x28 : Int).toNat (w64 (x28 + 1) : Int).toNat) r59) ∧
  if r59.1 = true then
   o1 = .inl (w64 (x28 + 1), r59.2.text, r59.2.at_, r59.2.out, r59.2.in_, r59.2.code)
  else
   o1 = .inr ((false, r59.2))
 else
  o1 = .inr ((true, (⟨x29, x30, x31, x36, x37⟩ : jps)))
def jps_word (x1 : jps) (x10 : ByteArray) (r : Bool × jps) : Prop :=
 Rounds (fun (s : Int × ByteArray × Int × (List JNd) × Int × Int) o => jps_word_b1 x10 s.1 s.2.1 s.2.2.1 s.2.2.2.1 s.2.2.2.2.1 s.2.2.2.2.2 o) (0, x1.text, x1.at_, x1.out, x1.in_, x1.code) r
def jps_hex (x1 : jps) (x10 : ByteArray) (r : Int × Bool × jps) : Prop :=
 ∃ r14 : Bool × jps, (jps_take x1 x10 r14) ∧
 if r14.1 = true then
  (0 ≤ w64 (r14.2.at_ - 1) ∧ w64 (r14.2.at_ - 1) < (r14.2.text.size : Int)) ∧
  if bt r14.2.text (w64 (r14.2.at_ - 1)) ≤ 57 then
   r = (IntKind.i32.wrap (IntKind.u8.wrap ((bt r14.2.text (w64 (r14.2.at_ - 1))) - 48)), true, r14.2)
  else
   r = (IntKind.i32.wrap ((IntKind.i32.wrap ((IntKind.i32.wrap (bits .or .u8 (bt r14.2.text (w64 (r14.2.at_ - 1))) 32)) - 97)) + 10), true, r14.2)
 else
  r = (0, false, r14.2)
def jps_four_b2 (x27 : ByteArray) (x28 : ByteArray) (x54 : Int) (x55 : Int) (x56 : ByteArray) (x57 : Int) (x58 : List JNd) (x63 : Int) (x64 : Int) (o1 : Sum (Int × Int × ByteArray × Int × (List JNd) × Int × Int) (Int × Bool × jps)) : Prop :=
 if x55 < 4 then
  (0 ≤ x55 ∧ x55 < (4 : Int)) ∧
  ∃ r86 : Int × Bool × jps, (jps_hex (⟨x56, x57, x58, x63, x64⟩ : jps) ((arrL ([x27, x28, (⟨#[48, 49, 50, 51, 52, 53, 54, 55, 56, 57, 97, 98, 99, 100, 101, 102, 65, 66, 67, 68, 69, 70]⟩ : ByteArray), (⟨#[48, 49, 50, 51, 52, 53, 54, 55, 56, 57, 97, 98, 99, 100, 101, 102, 65, 66, 67, 68, 69, 70]⟩ : ByteArray)] : List ByteArray)) x55) r86) ∧
  if r86.2.1 = true then
   o1 = .inl (IntKind.i32.wrap ((IntKind.i32.wrap (16 * x54)) + r86.1), w64 (x55 + 1), r86.2.2.text, r86.2.2.at_, r86.2.2.out, r86.2.2.in_, r86.2.2.code)
  else
   o1 = .inr ((0, false, r86.2.2))
 else
  o1 = .inr ((x54, true, (⟨x56, x57, x58, x63, x64⟩ : jps)))
def jps_four_j1 (x27 : ByteArray) (x28 : ByteArray) (x29 : ByteArray) (x30 : Int) (x31 : List JNd) (x36 : Int) (x37 : Int) (r : Int × Bool × jps) : Prop :=
 Rounds (fun (s : Int × Int × ByteArray × Int × (List JNd) × Int × Int) o => jps_four_b2 x27 x28 s.1 s.2.1 s.2.2.1 s.2.2.2.1 s.2.2.2.2.1 s.2.2.2.2.2.1 s.2.2.2.2.2.2 o) (0, 0, x29, x30, x31, x36, x37) r
def jps_four (x1 : jps) (x10 : Bool) (r : Int × Bool × jps) : Prop :=
 if x10 = true then
  jps_four_j1 (⟨#[100, 68]⟩ : ByteArray) (⟨#[99, 100, 101, 102, 67, 68, 69, 70]⟩ : ByteArray) x1.text x1.at_ x1.out x1.in_ x1.code r
 else
  ∃ r100 : Bool × jps, (jps_is x1 (⟨#[100, 68]⟩ : ByteArray) r100) ∧
  if r100.1 = true then
   jps_four_j1 (⟨#[48, 49, 50, 51, 52, 53, 54, 55, 56, 57, 97, 98, 99, 100, 101, 102, 65, 66, 67, 68, 69, 70]⟩ : ByteArray) (⟨#[48, 49, 50, 51, 52, 53, 54, 55, 56, 57, 97, 98, 65, 66]⟩ : ByteArray) r100.2.text r100.2.at_ r100.2.out r100.2.in_ r100.2.code r
  else
   jps_four_j1 (⟨#[48, 49, 50, 51, 52, 53, 54, 55, 56, 57, 97, 98, 99, 100, 101, 102, 65, 66, 67, 68, 69, 70]⟩ : ByteArray) (⟨#[48, 49, 50, 51, 52, 53, 54, 55, 56, 57, 97, 98, 99, 100, 101, 102, 65, 66, 67, 68, 69, 70]⟩ : ByteArray) r100.2.text r100.2.at_ r100.2.out r100.2.in_ r100.2.code r
def unicode_utf8_appendRuneNonASCII_j2 (x1 : List Int) (x8 : Int) (x35 : Bool) (r : List Int) : Prop :=
 if x35 = true then
  ∃ x43 : List Int, (x43 = x1 ++ ([bits .or .u8 240 (IntKind.u8.wrap (shrV .i32 x8 18)), bits .or .u8 128 (bits .and .u8 (IntKind.u8.wrap (shrV .i32 x8 12)) 63), bits .or .u8 128 (bits .and .u8 (IntKind.u8.wrap (shrV .i32 x8 6)) 63), bits .or .u8 128 (bits .and .u8 (IntKind.u8.wrap (x8)) 63)] : List Int)) ∧
  (x43.length * 1 ≤ 211106232532992) ∧
  r = x43
 else
  ∃ x52 : List Int, (x52 = x1 ++ ([239, 191, 189] : List Int)) ∧
  (x52.length * 1 ≤ 211106232532992) ∧
  r = x52
def unicode_utf8_appendRuneNonASCII_j1 (x1 : List Int) (x8 : Int) (x22 : Bool) (r : List Int) : Prop :=
 if x22 = true then
  ∃ x30 : List Int, (x30 = x1 ++ ([bits .or .u8 224 (IntKind.u8.wrap (shrV .i32 x8 12)), bits .or .u8 128 (bits .and .u8 (IntKind.u8.wrap (shrV .i32 x8 6)) 63), bits .or .u8 128 (bits .and .u8 (IntKind.u8.wrap (x8)) 63)] : List Int)) ∧
  (x30.length * 1 ≤ 211106232532992) ∧
  r = x30
 else
  if IntKind.u32.wrap (x8) > 65535 then
   unicode_utf8_appendRuneNonASCII_j2 x1 x8 (decide (IntKind.u32.wrap (x8) ≤ 1114111)) r
  else
   unicode_utf8_appendRuneNonASCII_j2 x1 x8 false r
def unicode_utf8_appendRuneNonASCII (x1 : List Int) (x8 : Int) (r : List Int) : Prop :=
 if IntKind.u32.wrap (x8) ≤ 2047 then
  ∃ x16 : List Int, (x16 = x1 ++ ([bits .or .u8 192 (IntKind.u8.wrap (shrV .i32 x8 6)), bits .or .u8 128 (bits .and .u8 (IntKind.u8.wrap (x8)) 63)] : List Int)) ∧
  (x16.length * 1 ≤ 211106232532992) ∧
  r = x16
 else
  if IntKind.u32.wrap (x8) < 55296 then
   unicode_utf8_appendRuneNonASCII_j1 x1 x8 (decide (IntKind.u32.wrap (x8) < 55296)) r
  else
   if 57343 < IntKind.u32.wrap (x8) then
    unicode_utf8_appendRuneNonASCII_j1 x1 x8 (decide (IntKind.u32.wrap (x8) ≤ 65535)) r
   else
    unicode_utf8_appendRuneNonASCII_j1 x1 x8 false r
def unicode_utf8_AppendRune (x1 : List Int) (x8 : Int) (r : List Int) : Prop :=
 if IntKind.u32.wrap (x8) ≤ 127 then
  ∃ x16 : List Int, (x16 = x1 ++ ([IntKind.u8.wrap (x8)] : List Int)) ∧
  (x16.length * 1 ≤ 211106232532992) ∧
  r = x16
 else
  ∃ r22 : List Int, (unicode_utf8_appendRuneNonASCII x1 x8 r22) ∧
  r = r22
def jps_escape_j3 (x10 : List Int) (r65 : Int × Bool × jps) (x108 : Bool) (x109 : ByteArray) (x110 : Int) (x111 : List JNd) (x116 : Int) (x117 : Int) (r : (List Int) × Bool × jps) : Prop :=
 if x108 = true then
  r = (x10, false, (⟨x109, x110, x111, x116, x117⟩ : jps))
 else
  ∃ r122 : Int × Bool × jps, (jps_four (⟨x109, x110, x111, x116, x117⟩ : jps) true r122) ∧
  if r122.2.1 = true then
   ∃ r136 : List Int, (unicode_utf8_AppendRune x10 (IntKind.i32.wrap ((IntKind.i32.wrap (65536 + (shlV .i32 (IntKind.i32.wrap (r65.1 - 55296)) 10))) + (IntKind.i32.wrap (r122.1 - 56320)))) r136) ∧
   r = (r136, true, r122.2.2)
  else
   r = (x10, false, r122.2.2)
def jps_escape_j2 (r65 : Int × Bool × jps) (x10 : List Int) (x78 : Bool) (r : (List Int) × Bool × jps) : Prop :=
 if x78 = true then
  ∃ r149 : Bool × jps, (jps_take r65.2.2 (⟨#[92]⟩ : ByteArray) r149) ∧
  if r149.1 = true then
   ∃ r163 : Bool × jps, (jps_take r149.2 (⟨#[117]⟩ : ByteArray) r163) ∧
   jps_escape_j3 x10 r65 (!r163.1) r163.2.text r163.2.at_ r163.2.out r163.2.in_ r163.2.code r
  else
   jps_escape_j3 x10 r65 true r149.2.text r149.2.at_ r149.2.out r149.2.in_ r149.2.code r
 else
  ∃ r176 : List Int, (unicode_utf8_AppendRune x10 r65.1 r176) ∧
  r = (r176, true, r65.2.2)
def jps_escape_j1 (x1 : jps) (x10 : List Int) (x21 : Bool) (r : (List Int) × Bool × jps) : Prop :=
 if x21 = true then
  (0 ≤ w64 ((w64 (x1.at_ + 1)) - 1) ∧ w64 ((w64 (x1.at_ + 1)) - 1) < (x1.text.size : Int)) ∧
  (0 ≤ bt x1.text (w64 ((w64 (x1.at_ + 1)) - 1)) ∧ bt x1.text (w64 ((w64 (x1.at_ + 1)) - 1)) < 256) ∧
  ∃ x31 : List Int, (x31 = x10 ++ ([ix tb_3 (bt x1.text (w64 ((w64 (x1.at_ + 1)) - 1)))] : List Int)) ∧
  (x31.length * 1 ≤ 211106232532992) ∧
  r = (x31, true, (⟨x1.text, w64 (x1.at_ + 1), x1.out, x1.in_, x1.code⟩ : jps))
 else
  ∃ r51 : Bool × jps, (jps_take x1 (⟨#[117]⟩ : ByteArray) r51) ∧
  if r51.1 = true then
   ∃ r65 : Int × Bool × jps, (jps_four r51.2 false r65) ∧
   if r65.2.1 = true then
    if r65.1 ≥ 55296 then
     jps_escape_j2 r65 x10 (decide (r65.1 ≤ 56319)) r
    else
     jps_escape_j2 r65 x10 false r
   else
    r = (x10, false, r65.2.2)
  else
   r = (x10, false, r51.2)
def jps_escape (x1 : jps) (x10 : List Int) (r : (List Int) × Bool × jps) : Prop :=
 if x1.at_ < (x1.text.size : Int) then
  (0 ≤ x1.at_ ∧ x1.at_ < (x1.text.size : Int)) ∧
  (0 ≤ bt x1.text x1.at_ ∧ bt x1.text x1.at_ < 256) ∧
  jps_escape_j1 x1 x10 ((ix tb_3 (bt x1.text x1.at_)) != 0) r
 else
  jps_escape_j1 x1 x10 false r
def jps_char_j4 (x10 : List Int) (x1 : jps) (x68 : Int) (x65 : Int) (x97 : Bool) (o1 : Sum (Int × Int × Int × Int) ((List Int) × Bool × jps)) : Prop :=
 if x97 = true then
  o1 = .inr ((x10, false, (⟨x1.text, x68, x1.out, x1.in_, x1.code⟩ : jps)))
 else
  o1 = .inl (w64 (x65 - 1), 128, 191, w64 (x68 + 1))
def jps_char_b3 (x1 : jps) (x10 : List Int) (x65 : Int) (x66 : Int) (x67 : Int) (x68 : Int) (o1 : Sum (Int × Int × Int × Int) ((List Int) × Bool × jps)) : Prop :=
 if x65 > 0 then
  if x68 = (x1.text.size : Int) then
   jps_char_j4 x10 x1 x68 x65 true o1
  else
   (0 ≤ x68 ∧ x68 < (x1.text.size : Int)) ∧
   if bt x1.text x68 < x66 then
    jps_char_j4 x10 x1 x68 x65 true o1
   else
    jps_char_j4 x10 x1 x68 x65 (decide (bt x1.text x68 > x67)) o1
 else
  (0 ≤ x1.at_ ∧ x1.at_ ≤ x68 ∧ x68 ≤ (x1.text.size : Int)) ∧
  ∃ x106 : List Int, (x106 = x10 ++ bsOf (x1.text.extract (x1.at_ : Int).toNat (x68 : Int).toNat)) ∧
  (x106.length * 1 ≤ 211106232532992) ∧
  o1 = .inr ((x106, true, (⟨x1.text, x68, x1.out, x1.in_, x1.code⟩ : jps)))
def jps_char_j2 (x1 : jps) (x10 : List Int) (x33 : Int) (x39 : Int) (x40 : Int) (r : (List Int) × Bool × jps) : Prop :=
 Rounds (fun (s : Int × Int × Int × Int) o => jps_char_b3 x1 x10 s.1 s.2.1 s.2.2.1 s.2.2.2 o) (x33, x39, x40, w64 (x1.at_ + 1)) r
def jps_char_j1 (x1 : jps) (x10 : List Int) (x33 : Int) (r : (List Int) × Bool × jps) : Prop :=
 if bt x1.text x1.at_ = 224 then
  jps_char_j2 x1 x10 x33 160 191 r
 else
  if bt x1.text x1.at_ = 237 then
   jps_char_j2 x1 x10 x33 128 159 r
  else
   if bt x1.text x1.at_ = 240 then
    jps_char_j2 x1 x10 x33 144 191 r
   else
    if bt x1.text x1.at_ = 244 then
     jps_char_j2 x1 x10 x33 128 143 r
    else
     jps_char_j2 x1 x10 x33 128 191 r
def jps_char_j6 (x1 : jps) (x10 : List Int) (x124 : Bool) (r : (List Int) × Bool × jps) : Prop :=
 if x124 = true then
  jps_char_j1 x1 x10 2 r
 else
  if bt x1.text x1.at_ ≥ 240 then
   if bt x1.text x1.at_ ≤ 244 then
    jps_char_j1 x1 x10 3 r
   else
    r = (x10, false, x1)
  else
   r = (x10, false, x1)
def jps_char_j5 (x1 : jps) (x10 : List Int) (x120 : Bool) (r : (List Int) × Bool × jps) : Prop :=
 if x120 = true then
  jps_char_j1 x1 x10 1 r
 else
  if bt x1.text x1.at_ ≥ 224 then
   jps_char_j6 x1 x10 (decide (bt x1.text x1.at_ ≤ 239)) r
  else
   jps_char_j6 x1 x10 false r
def jps_char (x1 : jps) (x10 : List Int) (r : (List Int) × Bool × jps) : Prop :=
 (0 ≤ x1.at_ ∧ x1.at_ < (x1.text.size : Int)) ∧
 if bt x1.text x1.at_ < 32 then
  r = (x10, false, x1)
 else
  if bt x1.text x1.at_ < 128 then
   jps_char_j1 x1 x10 0 r
  else
   if bt x1.text x1.at_ ≥ 194 then
    jps_char_j5 x1 x10 (decide (bt x1.text x1.at_ ≤ 223)) r
   else
    jps_char_j5 x1 x10 false r
def jps_str_b1 (x82 : List Int) (x87 : ByteArray) (x88 : Int) (x89 : List JNd) (x94 : Int) (x95 : Int) (o1 : Sum ((List Int) × ByteArray × Int × (List JNd) × Int × Int) (ByteArray × Bool × jps)) : Prop :=
 ∃ r154 : Bool × jps, (jps_take (⟨x87, x88, x89, x94, x95⟩ : jps) (⟨#[34]⟩ : ByteArray) r154) ∧
 if r154.1 = true then
  o1 = .inr ((ofBs x82, true, r154.2))
 else
  if r154.2.at_ = (r154.2.text.size : Int) then
   o1 = .inr (((⟨#[]⟩ : ByteArray), false, r154.2))
  else
   (0 ≤ r154.2.at_ ∧ r154.2.at_ < (r154.2.text.size : Int)) ∧
   if bt r154.2.text r154.2.at_ = 92 then
    ∃ r171 : (List Int) × Bool × jps, (jps_escape (⟨r154.2.text, w64 (r154.2.at_ + 1), r154.2.out, r154.2.in_, r154.2.code⟩ : jps) x82 r171) ∧
    if r171.2.1 = true then
     o1 = .inl (r171.1, r171.2.2.text, r171.2.2.at_, r171.2.2.out, r171.2.2.in_, r171.2.2.code)
    else
     o1 = .inr (((⟨#[]⟩ : ByteArray), false, r171.2.2))
   else
    ∃ r190 : (List Int) × Bool × jps, (jps_char r154.2 x82 r190) ∧
    if r190.2.1 = true then
     o1 = .inl (r190.1, r190.2.2.text, r190.2.2.at_, r190.2.2.out, r190.2.2.in_, r190.2.2.code)
    else
     o1 = .inr (((⟨#[]⟩ : ByteArray), false, r190.2.2))
def jps_str (x1 : jps) (r : ByteArray × Bool × jps) : Prop :=
 ∃ r13 : Bool × jps, (jps_take x1 (⟨#[34]⟩ : ByteArray) r13) ∧
 if r13.1 = true then
  Rounds (fun (s : (List Int) × ByteArray × Int × (List JNd) × Int × Int) o => jps_str_b1 s.1 s.2.1 s.2.2.1 s.2.2.2.1 s.2.2.2.2.1 s.2.2.2.2.2 o) (([] : List Int), r13.2.text, r13.2.at_, r13.2.out, r13.2.in_, r13.2.code) r
 else
  r = ((⟨#[]⟩ : ByteArray), false, r13.2)
def jps_many_j3 (rc_json_parser_value : jps → ByteArray → (Bool × jps) → Prop) (x26 : ByteArray) (x25 : Int) (x248 : Int) (x507 : ByteArray) (x508 : ByteArray) (x509 : Int) (x510 : List JNd) (x515 : Int) (x516 : Int) (x517 : ByteArray → Int) (o1 : Sum (Int × (ByteArray → Int) × ByteArray × Int × (List JNd) × Int × Int) (Int × Int × Bool × jps)) : Prop :=
 ∃ r521 : Bool × jps, (rc_json_parser_value (⟨x508, x509, x510, x515, x516⟩ : jps) x507 r521) ∧
 if r521.1 = true then
  ∃ r535 : jps, (jps_blanks r521.2 r535) ∧
  ∃ r548 : Bool × jps, (jps_is r535 x26 r548) ∧
  if r548.1 = true then
   o1 = .inr ((x25, x248, true, (⟨r548.2.text, w64 (r548.2.at_ + 1), r548.2.out, r548.2.in_, r548.2.code⟩ : jps)))
  else
   ∃ r562 : Bool × jps, (jps_take r548.2 (⟨#[44]⟩ : ByteArray) r562) ∧
   if r562.1 = true then
    ∃ r576 : jps, (jps_blanks r562.2 r576) ∧
    o1 = .inl (w64 (x248 + 1), x517, r576.text, r576.at_, r576.out, r576.in_, r576.code)
   else
    o1 = .inr ((x25, x248, false, r562.2))
 else
  o1 = .inr ((x25, x248, false, r521.2))
def jps_many_b2 (x25 : Int) (rc_json_parser_value : jps → ByteArray → (Bool × jps) → Prop) (x26 : ByteArray) (x248 : Int) (x249 : ByteArray → Int) (x250 : ByteArray) (x251 : Int) (x252 : List JNd) (x257 : Int) (x258 : Int) (o1 : Sum (Int × (ByteArray → Int) × ByteArray × Int × (List JNd) × Int × Int) (Int × Int × Bool × jps)) : Prop :=
 if x25 = 7 then
  ∃ r589 : ByteArray × Bool × jps, (jps_str (⟨x250, x251, x252, x257, x258⟩ : jps) r589) ∧
  if r589.2.1 = true then
   if x249 r589.1 > 0 then
    o1 = .inr ((x25, x248, false, (⟨r589.2.2.text, x251, r589.2.2.out, r589.2.2.in_, r589.2.2.code⟩ : jps)))
   else
    ∃ r604 : jps, (jps_blanks r589.2.2 r604) ∧
    ∃ r617 : Bool × jps, (jps_take r604 (⟨#[58]⟩ : ByteArray) r617) ∧
    if r617.1 = true then
     ∃ r631 : jps, (jps_blanks r617.2 r631) ∧
     jps_many_j3 rc_json_parser_value x26 x25 x248 r589.1 r631.text r631.at_ r631.out r631.in_ r631.code (updM x249 r589.1 1) o1
    else
     o1 = .inr ((x25, x248, false, r617.2))
  else
   o1 = .inr ((x25, x248, false, r589.2.2))
 else
  jps_many_j3 rc_json_parser_value x26 x25 x248 (⟨#[]⟩ : ByteArray) x250 x251 x252 x257 x258 x249 o1
def jps_many_j1 (r13 : Bool × jps) (rc_json_parser_value : jps → ByteArray → (Bool × jps) → Prop) (x25 : Int) (x26 : ByteArray) (r : Int × Int × Bool × jps) : Prop :=
 ∃ r30 : jps, (jps_blanks (⟨r13.2.text, w64 (r13.2.at_ + 1), r13.2.out, r13.2.in_, r13.2.code⟩ : jps) r30) ∧
 ∃ r43 : Bool × jps, (jps_is r30 x26 r43) ∧
 if r43.1 = true then
  r = (x25, 0, true, (⟨r43.2.text, w64 (r43.2.at_ + 1), r43.2.out, r43.2.in_, r43.2.code⟩ : jps))
 else
  Rounds (fun (s : Int × (ByteArray → Int) × ByteArray × Int × (List JNd) × Int × Int) o => jps_many_b2 x25 rc_json_parser_value x26 s.1 s.2.1 s.2.2.1 s.2.2.2.1 s.2.2.2.2.1 s.2.2.2.2.2.1 s.2.2.2.2.2.2 o) (1, (fun _ => 0), r43.2.text, r43.2.at_, r43.2.out, r43.2.in_, r43.2.code) r
def jps_many_body (rc_json_parser_many : jps → (Int × Int × Bool × jps) → Prop) (rc_json_parser_value : jps → ByteArray → (Bool × jps) → Prop) (x1 : jps) (r : Int × Int × Bool × jps) : Prop :=
 ∃ r13 : Bool × jps, (jps_is x1 (⟨#[123]⟩ : ByteArray) r13) ∧
 if r13.1 = true then
  jps_many_j1 r13 rc_json_parser_value 7 (⟨#[125]⟩ : ByteArray) r
 else
  jps_many_j1 r13 rc_json_parser_value 6 (⟨#[93]⟩ : ByteArray) r
def jps_value_j1 (x1 : jps) (x10 : ByteArray) (x193 : Bool) (x194 : ByteArray) (x195 : Int) (x196 : List JNd) (x201 : Int) (x202 : Int) (x203 : Int) (x204 : ByteArray) (x205 : Int) (r : Bool × jps) : Prop :=
 (0 ≤ (x1.out.length : Int) ∧ (x1.out.length : Int) < (x196.length : Int)) ∧
 ∃ x207 : List JNd, (x207 = x196.set ((x1.out.length : Int) : Int).toNat (⟨x203, x10, x204, x205⟩ : JNd)) ∧
 r = (x193, (⟨x194, x195, x207, x201, x202⟩ : jps))
def jps_value_body (rc_json_parser_many : jps → (Int × Int × Bool × jps) → Prop) (rc_json_parser_value : jps → ByteArray → (Bool × jps) → Prop) (x1 : jps) (x10 : ByteArray) (r : Bool × jps) : Prop :=
 ∃ x19 : List JNd, (x19 = x1.out ++ ([(⟨0, x10, (⟨#[]⟩ : ByteArray), 0⟩ : JNd)] : List JNd)) ∧
 (x19.length * 48 ≤ 211106232532992) ∧
 ∃ r45 : Bool × jps, (jps_is (⟨x1.text, x1.at_, x19, x1.in_, x1.code⟩ : jps) (⟨#[110]⟩ : ByteArray) r45) ∧
 if r45.1 = true then
  ∃ r215 : Bool × jps, (jps_word r45.2 (⟨#[110, 117, 108, 108]⟩ : ByteArray) r215) ∧
  jps_value_j1 x1 x10 r215.1 r215.2.text r215.2.at_ r215.2.out r215.2.in_ r215.2.code 1 (⟨#[]⟩ : ByteArray) 0 r
 else
  ∃ r228 : Bool × jps, (jps_is r45.2 (⟨#[102]⟩ : ByteArray) r228) ∧
  if r228.1 = true then
   ∃ r242 : Bool × jps, (jps_word r228.2 (⟨#[102, 97, 108, 115, 101]⟩ : ByteArray) r242) ∧
   jps_value_j1 x1 x10 r242.1 r242.2.text r242.2.at_ r242.2.out r242.2.in_ r242.2.code 2 (⟨#[]⟩ : ByteArray) 0 r
  else
   ∃ r255 : Bool × jps, (jps_is r228.2 (⟨#[116]⟩ : ByteArray) r255) ∧
   if r255.1 = true then
    ∃ r269 : Bool × jps, (jps_word r255.2 (⟨#[116, 114, 117, 101]⟩ : ByteArray) r269) ∧
    jps_value_j1 x1 x10 r269.1 r269.2.text r269.2.at_ r269.2.out r269.2.in_ r269.2.code 3 (⟨#[]⟩ : ByteArray) 0 r
   else
    ∃ r282 : Bool × jps, (jps_is r255.2 (⟨#[34]⟩ : ByteArray) r282) ∧
    if r282.1 = true then
     ∃ r296 : ByteArray × Bool × jps, (jps_str r282.2 r296) ∧
     jps_value_j1 x1 x10 r296.2.1 r296.2.2.text r296.2.2.at_ r296.2.2.out r296.2.2.in_ r296.2.2.code 5 r296.1 0 r
    else
     ∃ r309 : Bool × jps, (jps_is r282.2 (⟨#[91, 123]⟩ : ByteArray) r309) ∧
     if r309.1 = true then
      if r309.2.in_ = 64 then
       r = (false, (⟨r309.2.text, r309.2.at_, r309.2.out, r309.2.in_, 251⟩ : jps))
      else
       ∃ r324 : Int × Int × Bool × jps, (rc_json_parser_many (⟨r309.2.text, r309.2.at_, r309.2.out, w64 (r309.2.in_ + 1), r309.2.code⟩ : jps) r324) ∧
       jps_value_j1 x1 x10 r324.2.2.1 r324.2.2.2.text r324.2.2.2.at_ r324.2.2.2.out (w64 (r324.2.2.2.in_ - 1)) r324.2.2.2.code r324.1 (⟨#[]⟩ : ByteArray) r324.2.1 r
     else
      ∃ r337 : Bool × jps, (jps_number r309.2 r337) ∧
      (0 ≤ x1.at_ ∧ x1.at_ ≤ r337.2.at_ ∧ r337.2.at_ ≤ (r337.2.text.size : Int)) ∧
      jps_value_j1 x1 x10 r337.1 r337.2.text r337.2.at_ r337.2.out r337.2.in_ r337.2.code 4 (r337.2.text.extract (x1.at_ : Int).toNat (r337.2.at_ : Int).toNat) 0 r
def jps_many_all : Nat → (jps → (Int × Int × Bool × jps) → Prop) × (jps → ByteArray → (Bool × jps) → Prop)
 | 0 => (fun _ _ => False, fun _ _ _ => False)
 | n + 1 => (jps_many_body ((jps_many_all n).1) ((jps_many_all n).2), jps_value_body ((jps_many_all n).1) ((jps_many_all n).2))
def jps_many_n (n : Nat) : jps → (Int × Int × Bool × jps) → Prop := (jps_many_all n).1
def jps_value_n (n : Nat) : jps → ByteArray → (Bool × jps) → Prop := (jps_many_all n).2
def jps_value (x1 : jps) (x10 : ByteArray) (r : Bool × jps) : Prop := ∃ n, jps_value_n n x1 x10 r
def json_Parse_j1 (x46 : Bool) (x48 : Int) (x49 : List JNd) (x55 : Int) (r : (List JNd) × Int × Int) : Prop :=
 if x46 = true then
  r = (x49, 0, 0)
 else
  r = (([] : List JNd), x55, x48)
def json_Parse (x1 : ByteArray) (r : (List JNd) × Int × Int) : Prop :=
 ∃ r8 : jps, (jps_blanks (⟨x1, 0, ([] : List JNd), 0, 250⟩ : jps) r8) ∧
 ∃ r21 : Bool × jps, (jps_value r8 (⟨#[]⟩ : ByteArray) r21) ∧
 if r21.1 = true then
  ∃ r60 : jps, (jps_blanks r21.2 r60) ∧
  json_Parse_j1 (r60.at_ == (x1.size : Int)) r60.at_ r60.out r60.code r
 else
  json_Parse_j1 r21.1 r21.2.at_ r21.2.out r21.2.code r
def tl_started  (r : Bool) : Prop :=
 ∃ r4 : (List JNd) × Int × Int, (json_Parse (⟨#[32, 123, 34, 97, 34, 58, 91, 49, 44, 34, 92, 117, 48, 48, 101, 57, 34, 93, 125]⟩ : ByteArray) r4) ∧
 ∃ r17 : ByteArray × Int, (json_Print r4.1 r17) ∧
 ∃ r25 : Int × Bool, (json_Int r4.1 2 r25) ∧
 if r4.2.1 = 0 then
  if r4.2.2 = 0 then
   if (r4.1.length : Int) = 4 then
    (0 ≤ (1 : Int) ∧ (1 : Int) < (r4.1.length : Int)) ∧
    if (ix r4.1 1).key = (⟨#[97]⟩ : ByteArray) then
     (0 ≤ (3 : Int) ∧ (3 : Int) < (r4.1.length : Int)) ∧
     if (ix r4.1 3).text = (⟨#[195, 169]⟩ : ByteArray) then
      if r17.2 = 0 then
       if r17.1 = (⟨#[123, 34, 97, 34, 58, 91, 49, 44, 34, 195, 169, 34, 93, 125]⟩ : ByteArray) then
        ∃ r42 : Int, (json_Member r4.1 0 (⟨#[97]⟩ : ByteArray) r42) ∧
        if r42 = 1 then
         if r25.1 = 1 then
          r = r25.2
         else
          r = false
        else
         r = false
       else
        r = false
      else
       r = false
     else
      r = false
    else
     r = false
   else
    r = false
  else
   r = false
 else
  r = false
def tl_JsonBlanks_j3 (r479 : (List JNd) × Int × Int) (r463 : (List JNd) × Int × Int) (r15 : (List JNd) × Int × Int) (x498 : Bool) (o1 : Sum (ByteArray × Int) Bool) : Prop :=
 if x498 = true then
  o1 = .inr (false)
 else
  (0 ≤ (1 : Int) ∧ (1 : Int) < (r479.1.length : Int)) ∧
  ∃ x501 : List JNd, (x501 = r479.1.set (1 : Int).toNat ({ (ix r479.1 1) with key := (⟨#[]⟩ : ByteArray) })) ∧
  (0 ≤ (1 : Int) ∧ (1 : Int) ≤ (r463.1.length : Int) ∧ (r463.1.length : Int) ≤ (r463.1.length : Int)) ∧
  ∃ r509 : Bool, (tl_same ((r463.1.drop (1 : Int).toNat).take ((r463.1.length : Int).toNat - (1 : Int).toNat)) r15.1 r509) ∧
  if r509 = true then
   (0 ≤ (1 : Int) ∧ (1 : Int) ≤ (x501.length : Int) ∧ (x501.length : Int) ≤ (x501.length : Int)) ∧
   ∃ r520 : Bool, (tl_same ((x501.drop (1 : Int).toNat).take ((x501.length : Int).toNat - (1 : Int).toNat)) r15.1 r520) ∧
   o1 = .inr (r520)
  else
   o1 = .inr (false)
def tl_JsonBlanks_j4 (x535 : Bool) (o1 : Sum (ByteArray × Int) Bool) : Prop :=
 o1 = .inr (x535)
def tl_JsonBlanks_j2 (x1 : ByteArray) (r15 : (List JNd) × Int × Int) (x456 : Bool) (o1 : Sum (ByteArray × Int) Bool) : Prop :=
 if x456 = true then
  o1 = .inr (false)
 else
  ((⟨#[91]⟩ : ByteArray).size + x1.size ≤ 9223372036854775807) ∧
  (((⟨#[91]⟩ : ByteArray) ++ x1).size + (⟨#[93]⟩ : ByteArray).size ≤ 9223372036854775807) ∧
  ∃ r463 : (List JNd) × Int × Int, (json_Parse (((⟨#[91]⟩ : ByteArray) ++ x1) ++ (⟨#[93]⟩ : ByteArray)) r463) ∧
  if r463.2.1 = 0 then
   ((⟨#[123, 34, 107, 34, 58]⟩ : ByteArray).size + x1.size ≤ 9223372036854775807) ∧
   (((⟨#[123, 34, 107, 34, 58]⟩ : ByteArray) ++ x1).size + (⟨#[125]⟩ : ByteArray).size ≤ 9223372036854775807) ∧
   ∃ r479 : (List JNd) × Int × Int, (json_Parse (((⟨#[123, 34, 107, 34, 58]⟩ : ByteArray) ++ x1) ++ (⟨#[125]⟩ : ByteArray)) r479) ∧
   if r479.2.1 = 0 then
    if (r463.1.length : Int) = w64 ((r15.1.length : Int) + 1) then
     if (r479.1.length : Int) = w64 ((r15.1.length : Int) + 1) then
      (0 ≤ (0 : Int) ∧ (0 : Int) < (r463.1.length : Int)) ∧
      if (ix r463.1 0).kids = 1 then
       (0 ≤ (0 : Int) ∧ (0 : Int) < (r479.1.length : Int)) ∧
       if (ix r479.1 0).kids = 1 then
        (0 ≤ (1 : Int) ∧ (1 : Int) < (r479.1.length : Int)) ∧
        tl_JsonBlanks_j3 r479 r463 r15 (!(seq ((ix r479.1 1).key) (⟨#[107]⟩ : ByteArray))) o1
       else
        tl_JsonBlanks_j3 r479 r463 r15 true o1
      else
       tl_JsonBlanks_j3 r479 r463 r15 true o1
     else
      tl_JsonBlanks_j3 r479 r463 r15 true o1
    else
     tl_JsonBlanks_j3 r479 r463 r15 true o1
   else
    tl_JsonBlanks_j3 r479 r463 r15 true o1
  else
   if r463.2.1 = 251 then
    tl_JsonBlanks_j4 (decide (r463.2.2 > 0)) o1
   else
    tl_JsonBlanks_j4 false o1
def tl_JsonBlanks_j5 (x550 : Bool) (o1 : Sum (ByteArray × Int) Bool) : Prop :=
 o1 = .inr (x550)
def tl_JsonBlanks_j6 (x556 : Bool) (o1 : Sum (ByteArray × Int) Bool) : Prop :=
 o1 = .inr (x556)
def tl_JsonBlanks_j8 (r608 : (List JNd) × Int × Int) (r592 : (List JNd) × Int × Int) (r15 : (List JNd) × Int × Int) (x627 : Bool) (o1 : Sum (ByteArray × Int) Bool) : Prop :=
 if x627 = true then
  o1 = .inr (false)
 else
  (0 ≤ (1 : Int) ∧ (1 : Int) < (r608.1.length : Int)) ∧
  ∃ x630 : List JNd, (x630 = r608.1.set (1 : Int).toNat ({ (ix r608.1 1) with key := (⟨#[]⟩ : ByteArray) })) ∧
  (0 ≤ (1 : Int) ∧ (1 : Int) ≤ (r592.1.length : Int) ∧ (r592.1.length : Int) ≤ (r592.1.length : Int)) ∧
  ∃ r638 : Bool, (tl_same ((r592.1.drop (1 : Int).toNat).take ((r592.1.length : Int).toNat - (1 : Int).toNat)) r15.1 r638) ∧
  if r638 = true then
   (0 ≤ (1 : Int) ∧ (1 : Int) ≤ (x630.length : Int) ∧ (x630.length : Int) ≤ (x630.length : Int)) ∧
   ∃ r649 : Bool, (tl_same ((x630.drop (1 : Int).toNat).take ((x630.length : Int).toNat - (1 : Int).toNat)) r15.1 r649) ∧
   o1 = .inr (r649)
  else
   o1 = .inr (false)
def tl_JsonBlanks_j9 (x664 : Bool) (o1 : Sum (ByteArray × Int) Bool) : Prop :=
 o1 = .inr (x664)
def tl_JsonBlanks_j7 (x1 : ByteArray) (r15 : (List JNd) × Int × Int) (x585 : Bool) (o1 : Sum (ByteArray × Int) Bool) : Prop :=
 if x585 = true then
  o1 = .inr (false)
 else
  ((⟨#[91]⟩ : ByteArray).size + x1.size ≤ 9223372036854775807) ∧
  (((⟨#[91]⟩ : ByteArray) ++ x1).size + (⟨#[93]⟩ : ByteArray).size ≤ 9223372036854775807) ∧
  ∃ r592 : (List JNd) × Int × Int, (json_Parse (((⟨#[91]⟩ : ByteArray) ++ x1) ++ (⟨#[93]⟩ : ByteArray)) r592) ∧
  if r592.2.1 = 0 then
   ((⟨#[123, 34, 107, 34, 58]⟩ : ByteArray).size + x1.size ≤ 9223372036854775807) ∧
   (((⟨#[123, 34, 107, 34, 58]⟩ : ByteArray) ++ x1).size + (⟨#[125]⟩ : ByteArray).size ≤ 9223372036854775807) ∧
   ∃ r608 : (List JNd) × Int × Int, (json_Parse (((⟨#[123, 34, 107, 34, 58]⟩ : ByteArray) ++ x1) ++ (⟨#[125]⟩ : ByteArray)) r608) ∧
   if r608.2.1 = 0 then
    if (r592.1.length : Int) = w64 ((r15.1.length : Int) + 1) then
     if (r608.1.length : Int) = w64 ((r15.1.length : Int) + 1) then
      (0 ≤ (0 : Int) ∧ (0 : Int) < (r592.1.length : Int)) ∧
      if (ix r592.1 0).kids = 1 then
       (0 ≤ (0 : Int) ∧ (0 : Int) < (r608.1.length : Int)) ∧
       if (ix r608.1 0).kids = 1 then
        (0 ≤ (1 : Int) ∧ (1 : Int) < (r608.1.length : Int)) ∧
        tl_JsonBlanks_j8 r608 r592 r15 (!(seq ((ix r608.1 1).key) (⟨#[107]⟩ : ByteArray))) o1
       else
        tl_JsonBlanks_j8 r608 r592 r15 true o1
      else
       tl_JsonBlanks_j8 r608 r592 r15 true o1
     else
      tl_JsonBlanks_j8 r608 r592 r15 true o1
    else
     tl_JsonBlanks_j8 r608 r592 r15 true o1
   else
    tl_JsonBlanks_j8 r608 r592 r15 true o1
  else
   if r592.2.1 = 251 then
    tl_JsonBlanks_j9 (decide (r592.2.2 > 0)) o1
   else
    tl_JsonBlanks_j9 false o1
def tl_JsonBlanks_j10 (x679 : Bool) (o1 : Sum (ByteArray × Int) Bool) : Prop :=
 o1 = .inr (x679)
def tl_JsonBlanks_j11 (x685 : Bool) (o1 : Sum (ByteArray × Int) Bool) : Prop :=
 o1 = .inr (x685)
def tl_JsonBlanks_b1 (x2 : Int) (x27 : Int → ByteArray) (x1 : ByteArray) (r15 : (List JNd) × Int × Int) (x162 : ByteArray) (x163 : Int) (o1 : Sum (ByteArray × Int) Bool) : Prop :=
 if x163 < x2 then
  if x163 < 9 then
   (0 ≤ Int.tmod x163 4 ∧ Int.tmod x163 4 < 4) ∧
   (x162.size + (x27 (Int.tmod x163 4)).size ≤ 9223372036854775807) ∧
   o1 = .inl (x162 ++ (x27 (Int.tmod x163 4)), w64 (x163 + 1))
  else
   (x162.size + x1.size ≤ 9223372036854775807) ∧
   ((x162 ++ x1).size + x162.size ≤ 9223372036854775807) ∧
   ∃ r435 : (List JNd) × Int × Int, (json_Parse ((x162 ++ x1) ++ x162) r435) ∧
   if r15.2.1 = 0 then
    if r435.2.1 = 0 then
     ∃ r541 : Bool, (tl_same r15.1 r435.1 r541) ∧
     tl_JsonBlanks_j2 x1 r15 (!r541) o1
    else
     tl_JsonBlanks_j2 x1 r15 true o1
   else
    if r15.2.2 = (x1.size : Int) then
     if r435.2.1 = 250 then
      if r435.2.2 ≥ w64 ((x162.size : Int) + r15.2.2) then
       tl_JsonBlanks_j5 ((r435.1.length : Int) == 0) o1
      else
       tl_JsonBlanks_j5 false o1
     else
      tl_JsonBlanks_j5 false o1
    else
     if r435.2.1 = r15.2.1 then
      if r435.2.2 = w64 (r15.2.2 + (x162.size : Int)) then
       tl_JsonBlanks_j6 ((r435.1.length : Int) == 0) o1
      else
       tl_JsonBlanks_j6 false o1
     else
      tl_JsonBlanks_j6 false o1
 else
  (x162.size + x1.size ≤ 9223372036854775807) ∧
  ((x162 ++ x1).size + x162.size ≤ 9223372036854775807) ∧
  ∃ r564 : (List JNd) × Int × Int, (json_Parse ((x162 ++ x1) ++ x162) r564) ∧
  if r15.2.1 = 0 then
   if r564.2.1 = 0 then
    ∃ r670 : Bool, (tl_same r15.1 r564.1 r670) ∧
    tl_JsonBlanks_j7 x1 r15 (!r670) o1
   else
    tl_JsonBlanks_j7 x1 r15 true o1
  else
   if r15.2.2 = (x1.size : Int) then
    if r564.2.1 = 250 then
     if r564.2.2 ≥ w64 ((x162.size : Int) + r15.2.2) then
      tl_JsonBlanks_j10 ((r564.1.length : Int) == 0) o1
     else
      tl_JsonBlanks_j10 false o1
    else
     tl_JsonBlanks_j10 false o1
   else
    if r564.2.1 = r15.2.1 then
     if r564.2.2 = w64 (r15.2.2 + (x162.size : Int)) then
      tl_JsonBlanks_j11 ((r564.1.length : Int) == 0) o1
     else
      tl_JsonBlanks_j11 false o1
    else
     tl_JsonBlanks_j11 false o1
def tl_JsonBlanks (x1 : ByteArray) (x2 : Int) (r : Bool) : Prop :=
 ∃ r6 : Bool, (tl_started  r6) ∧
 if r6 = true then
  ∃ r15 : (List JNd) × Int × Int, (json_Parse x1 r15) ∧
  ∃ x27 : Int → ByteArray, (x27 = (arrL ([(⟨#[32]⟩ : ByteArray), (⟨#[9]⟩ : ByteArray), (⟨#[10]⟩ : ByteArray), (⟨#[13]⟩ : ByteArray)] : List ByteArray))) ∧
  Rounds (fun (s : ByteArray × Int) o => tl_JsonBlanks_b1 x2 x27 x1 r15 s.1 s.2 o) ((⟨#[]⟩ : ByteArray), 0) r
 else
  r = false
end Go.Proofs.YtmfopcbjgbphaaaDoor.R
