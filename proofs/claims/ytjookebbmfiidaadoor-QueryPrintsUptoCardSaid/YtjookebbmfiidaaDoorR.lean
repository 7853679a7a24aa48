/- What the functions answer, as plain relations, printed by my own tool off the program's translation. No condition. -/
import Derived.Test.YtjookebbmfiidaaDoorP0
import Derived.Lib.ValidU
set_option linter.unusedVariables false
namespace Go.Proofs.YtjookebbmfiidaaDoor.R
open Go.Proofs.YtjookebbmfiidaaDoor.B
structure api_PatNode where
 name : ByteArray
 lit : Bool
 field : ByteArray
 capture : ByteArray
 kids : Int
 deriving Inhabited, DecidableEq
structure api_Node where
 name : ByteArray
 named : Bool
 field : ByteArray
 from_ : Int
 to : Int
 kids : Int
 leaf : Int
 deriving Inhabited, DecidableEq
structure api_Cond where
 not : Bool
 a : ByteArray
 b : ByteArray
 text : ByteArray
 deriving Inhabited, DecidableEq
structure api_Query where
 nodes : List api_PatNode
 conds : List api_Cond
 deriving Inhabited, DecidableEq
structure api_Word where
 kind : Int
 text : ByteArray
 n : Int
 at_ : Int
 deriving Inhabited, DecidableEq
structure trellisref15_Tree where
 node : api_Node
 kids : List trellisref15_Tree
 at_ : Int
instance : Inhabited trellisref15_Tree := ⟨⟨default, [], default⟩⟩
def trellisref20_Beyond_b2 (x40 : Int) (x1 : List api_PatNode) (x207 : List Int) (o2 : Sum (List Int) (Sum ((List Int) × Int) Bool)) : Prop :=
 if (x207.length : Int) > 0 then
  (0 ≤ w64 ((x207.length : Int) - 1) ∧ w64 ((x207.length : Int) - 1) < (x207.length : Int)) ∧
  if ix x207 (w64 ((x207.length : Int) - 1)) ≤ 0 then
   (0 ≤ (0 : Int) ∧ (0 : Int) ≤ w64 ((x207.length : Int) - 1) ∧ w64 ((x207.length : Int) - 1) ≤ (x207.length : Int)) ∧
   ∃ x256 : List Int, (x256 = x207.take (w64 ((x207.length : Int) - 1) : Int).toNat) ∧
   o2 = .inl x256
  else
   ∃ x260 : List Int, (x260 = x207.set (w64 ((x207.length : Int) - 1) : Int).toNat (w64 ((ix x207 (w64 ((x207.length : Int) - 1))) - 1))) ∧
   (0 ≤ x40 ∧ x40 < (x1.length : Int)) ∧
   ∃ x275 : List Int, (x275 = x260 ++ ([(ix x1 x40).kids] : List Int)) ∧
   (x275.length * 8 ≤ 211106232532992) ∧
   if (x275.length : Int) > 65536 then
    o2 = .inr (.inr (true))
   else
    o2 = .inr (.inl (x275, w64 (x40 + 1)))
 else
  (0 ≤ x40 ∧ x40 < (x1.length : Int)) ∧
  ∃ x287 : List Int, (x287 = x207 ++ ([(ix x1 x40).kids] : List Int)) ∧
  (x287.length * 8 ≤ 211106232532992) ∧
  if (x287.length : Int) > 65536 then
   o2 = .inr (.inr (true))
  else
   o2 = .inr (.inl (x287, w64 (x40 + 1)))
def trellisref20_Beyond_b1 (x1 : List api_PatNode) (x35 : List Int) (x40 : Int) (o1 : Sum ((List Int) × Int) Bool) : Prop :=
 if x40 < (x1.length : Int) then
  Rounds (fun (s : (List Int)) o => trellisref20_Beyond_b2 x40 x1 s o) x35 o1
 else
  o1 = .inr (false)
def trellisref20_Beyond (x1 : List api_PatNode) (r : Bool) : Prop :=
 Rounds (fun (s : (List Int) × Int) o => trellisref20_Beyond_b1 x1 s.1 s.2 o) (([] : List Int), 0) r
def trellislaw20_twin_b2 (x1 : api_Query) (x149 : List api_PatNode) (x342 : Int) (x343 : List api_Cond) (o2 : Sum (Int × (List api_Cond)) (Sum (Int × (List api_PatNode)) api_Query)) : Prop :=
 if x342 < (x1.conds.length : Int) then
  (0 ≤ x342 ∧ x342 < (x1.conds.length : Int)) ∧
  ∃ x385 : List api_Cond, (x385 = x343 ++ ([ix x1.conds x342] : List api_Cond)) ∧
  (x385.length * 56 ≤ 211106232532992) ∧
  o2 = .inl (w64 (x342 + 1), x385)
 else
  o2 = .inr (.inr ((⟨x149, x343⟩ : api_Query)))
def trellislaw20_twin_b1 (x1 : api_Query) (x148 : Int) (x149 : List api_PatNode) (o1 : Sum (Int × (List api_PatNode)) api_Query) : Prop :=
 if x148 < (x1.nodes.length : Int) then
  (0 ≤ x148 ∧ x148 < (x1.nodes.length : Int)) ∧
  ∃ x288 : List api_PatNode, (x288 = x149 ++ ([ix x1.nodes x148] : List api_PatNode)) ∧
  (x288.length * 64 ≤ 211106232532992) ∧
  o1 = .inl (w64 (x148 + 1), x288)
 else
  Rounds (fun (s : Int × (List api_Cond)) o => trellislaw20_twin_b2 x1 x149 s.1 s.2 o) (0, ([] : List api_Cond)) o1
def trellislaw20_twin (x1 : api_Query) (r : api_Query) : Prop :=
 Rounds (fun (s : Int × (List api_PatNode)) o => trellislaw20_twin_b1 x1 s.1 s.2 o) (0, ([] : List api_PatNode)) r
def trellisref20_behind_j2 (x23 : Int) (x1 : List api_PatNode) (x24 : Int) (x48 : Bool) (o1 : Sum (Int × Int) Int) : Prop :=
 if x48 = true then
  o1 = .inr (-1)
 else
  (0 ≤ x23 ∧ x23 < (x1.length : Int)) ∧
  o1 = .inl (w64 (x23 + 1), w64 ((w64 (x24 - 1)) + ((ix x1 x23).kids)))
def trellisref20_behind_b1 (x1 : List api_PatNode) (x23 : Int) (x24 : Int) (o1 : Sum (Int × Int) Int) : Prop :=
 if x24 > 0 then
  if x23 ≥ (x1.length : Int) then
   trellisref20_behind_j2 x23 x1 x24 true o1
  else
   (0 ≤ x23 ∧ x23 < (x1.length : Int)) ∧
   if (ix x1 x23).kids < 0 then
    trellisref20_behind_j2 x23 x1 x24 true o1
   else
    trellisref20_behind_j2 x23 x1 x24 (decide ((ix x1 x23).kids > (x1.length : Int))) o1
 else
  o1 = .inr (x23)
def trellisref20_behind (x1 : List api_PatNode) (x6 : Int) (r : Int) : Prop :=
 Rounds (fun (s : Int × Int) o => trellisref20_behind_b1 x1 s.1 s.2 o) (x6, 1) r
def trellisref8_in_b1 (x1 : ByteArray) (x2 : Int) (x7 : Int) (o1 : Sum Int Bool) : Prop :=
 if x7 < (x1.size : Int) then
  (0 ≤ x7 ∧ x7 < (x1.size : Int)) ∧
  if bt x1 x7 = x2 then
   o1 = .inr (true)
  else
   o1 = .inl (w64 (x7 + 1))
 else
  o1 = .inr (false)
def trellisref8_in (x1 : ByteArray) (x2 : Int) (r : Bool) : Prop :=
 Rounds (fun (s : Int) o => trellisref8_in_b1 x1 x2 s o) 0 r
def trellisref8_run_b1 (x2 : Int) (x1 : ByteArray) (x3 : ByteArray) (x16 : Int) (o1 : Sum Int Int) : Prop :=
 if w64 (x2 + x16) < (x1.size : Int) then
  (0 ≤ w64 (x2 + x16) ∧ w64 (x2 + x16) < (x1.size : Int)) ∧
  ∃ r33 : Bool, (trellisref8_in x3 (bt x1 (w64 (x2 + x16))) r33) ∧
  if r33 = true then
   o1 = .inl (w64 (x16 + 1))
  else
   o1 = .inr (x16)
 else
  o1 = .inr (x16)
def trellisref8_run (x1 : ByteArray) (x2 : Int) (x3 : ByteArray) (r : Int) : Prop :=
 Rounds (fun (s : Int) o => trellisref8_run_b1 x2 x1 x3 s o) 0 r
def trellisref8_regex_j2 (x17 : Int) (x1 : ByteArray) (x34 : Bool) (o1 : Sum Int Int) : Prop :=
 if x34 = true then
  (0 ≤ x17 ∧ x17 < (x1.size : Int)) ∧
  if bt x1 x17 = 47 then
   o1 = .inr (w64 (x17 + 1))
  else
   if bt x1 x17 = 92 then
    if w64 (x17 + 1) < (x1.size : Int) then
     (0 ≤ w64 (x17 + 1) ∧ w64 (x17 + 1) < (x1.size : Int)) ∧
     if bt x1 (w64 (x17 + 1)) = 10 then
      o1 = .inl (w64 (x17 + 1))
     else
      o1 = .inl (w64 ((w64 (x17 + 1)) + 1))
    else
     o1 = .inl (w64 (x17 + 1))
   else
    o1 = .inl (w64 (x17 + 1))
 else
  o1 = .inr (0)
def trellisref8_regex_b1 (x1 : ByteArray) (x17 : Int) (o1 : Sum Int Int) : Prop :=
 if x17 < (x1.size : Int) then
  (0 ≤ x17 ∧ x17 < (x1.size : Int)) ∧
  trellisref8_regex_j2 x17 x1 ((bt x1 x17) != 10) o1
 else
  trellisref8_regex_j2 x17 x1 false o1
def trellisref8_regex (x1 : ByteArray) (x2 : Int) (r : Int) : Prop :=
 Rounds (fun (s : Int) o => trellisref8_regex_b1 x1 s o) (w64 (x2 + 1)) r
def trellisref8_Sound (x1 : api_Word) (r : Bool) : Prop :=
 if x1.kind = 1 then
  if (x1.text.size : Int) > 0 then
   if (x1.text.size : Int) ≤ 24 then
    (0 ≤ (0 : Int) ∧ (0 : Int) < (x1.text.size : Int)) ∧
    ∃ r11 : Bool, (trellisref8_in (⟨#[48, 49, 50, 51, 52, 53, 54, 55, 56, 57]⟩ : ByteArray) (bt x1.text 0) r11) ∧
    if r11 = true then
     r = false
    else
     ∃ r20 : Int, (trellisref8_run x1.text 0 (⟨#[65, 66, 67, 68, 69, 70, 71, 72, 73, 74, 75, 76, 77, 78, 79, 80, 81, 82, 83, 84, 85, 86, 87, 88, 89, 90, 97, 98, 99, 100, 101, 102, 103, 104, 105, 106, 107, 108, 109, 110, 111, 112, 113, 114, 115, 116, 117, 118, 119, 120, 121, 122, 95, 48, 49, 50, 51, 52, 53, 54, 55, 56, 57]⟩ : ByteArray) r20) ∧
     r = (r20 == (x1.text.size : Int))
   else
    r = false
  else
   r = false
 else
  if x1.kind = 2 then
   r = true
  else
   if x1.kind = 3 then
    ((⟨#[47]⟩ : ByteArray).size + x1.text.size ≤ 9223372036854775807) ∧
    (((⟨#[47]⟩ : ByteArray) ++ x1.text).size + (⟨#[47]⟩ : ByteArray).size ≤ 9223372036854775807) ∧
    ∃ r32 : Int, (trellisref8_regex (((⟨#[47]⟩ : ByteArray) ++ x1.text) ++ (⟨#[47]⟩ : ByteArray)) 0 r32) ∧
    r = (r32 == ((((⟨#[47]⟩ : ByteArray) ++ x1.text) ++ (⟨#[47]⟩ : ByteArray)).size : Int))
   else
    if x1.kind = 4 then
     if x1.n ≥ 0 then
      r = decide (x1.n ≤ 65535)
     else
      r = false
    else
     if x1.kind = 5 then
      if (x1.text.size : Int) = 1 then
       (0 ≤ (0 : Int) ∧ (0 : Int) < (x1.text.size : Int)) ∧
       ∃ r45 : Bool, (trellisref8_in (⟨#[123, 125, 40, 41, 124, 42, 43, 63, 58, 59, 44, 61, 64]⟩ : ByteArray) (bt x1.text 0) r45) ∧
       r = r45
      else
       r = false
     else
      r = false
def trellisref20_isName (x1 : ByteArray) (r : Bool) : Prop :=
 if x1 = (⟨#[95]⟩ : ByteArray) then
  r = false
 else
  ∃ r6 : Bool, (trellisref8_Sound (⟨1, x1, 0, 0⟩ : api_Word) r6) ∧
  r = r6
def trellisref20_Node_b1 (x1 : api_Query) (x10 : ByteArray) (x19 : Int) (o1 : Sum Int Int) : Prop :=
 if x19 < (x1.nodes.length : Int) then
  if x10 = (⟨#[]⟩ : ByteArray) then
   o1 = .inl (w64 (x19 + 1))
  else
   (0 ≤ x19 ∧ x19 < (x1.nodes.length : Int)) ∧
   if (ix x1.nodes x19).capture = x10 then
    o1 = .inr (x19)
   else
    o1 = .inl (w64 (x19 + 1))
 else
  o1 = .inr (-1)
def trellisref20_Node (x1 : api_Query) (x10 : ByteArray) (r : Int) : Prop :=
 Rounds (fun (s : Int) o => trellisref20_Node_b1 x1 x10 s o) 0 r
def trellisref20_Shaped_j5 (x1 : api_Query) (x239 : Int) (x425 : Bool) (o1 : Sum Int Bool) : Prop :=
 if x425 = true then
  o1 = .inr (false)
 else
  if (ix x1.nodes x239).capture = (⟨#[]⟩ : ByteArray) then
   o1 = .inl (w64 (x239 + 1))
  else
   ∃ r431 : Bool, (trellisref20_isName ((ix x1.nodes x239).capture) r431) ∧
   if r431 = true then
    ∃ r440 : Int, (trellisref20_Node x1 ((ix x1.nodes x239).capture) r440) ∧
    if r440 = x239 then
     o1 = .inl (w64 (x239 + 1))
    else
     o1 = .inr (false)
   else
    o1 = .inr (false)
def trellisref20_Shaped_j4 (x1 : api_Query) (x239 : Int) (x413 : Bool) (o1 : Sum Int Bool) : Prop :=
 if x413 = true then
  o1 = .inr (false)
 else
  if (ix x1.nodes x239).field = (⟨#[]⟩ : ByteArray) then
   trellisref20_Shaped_j5 x1 x239 false o1
  else
   ∃ r450 : Bool, (trellisref20_isName ((ix x1.nodes x239).field) r450) ∧
   trellisref20_Shaped_j5 x1 x239 (!r450) o1
def trellisref20_Shaped_j3 (x1 : api_Query) (x239 : Int) (x400 : Bool) (o1 : Sum Int Bool) : Prop :=
 if x400 = true then
  o1 = .inr (false)
 else
  if ((ix x1.nodes x239).lit) = true then
   trellisref20_Shaped_j4 x1 x239 false o1
  else
   if (ix x1.nodes x239).name = (⟨#[]⟩ : ByteArray) then
    trellisref20_Shaped_j4 x1 x239 false o1
   else
    ∃ r460 : Bool, (trellisref20_isName ((ix x1.nodes x239).name) r460) ∧
    trellisref20_Shaped_j4 x1 x239 (!r460) o1
def trellisref20_Shaped_b6 (x1 : api_Query) (x493 : Int) (o2 : Sum Int (Sum Int Bool)) : Prop :=
 if x493 < (x1.conds.length : Int) then
  (0 ≤ x493 ∧ x493 < (x1.conds.length : Int)) ∧
  ∃ r527 : Int, (trellisref20_Node x1 ((ix x1.conds x493).a) r527) ∧
  if r527 < 0 then
   o2 = .inr (.inr (false))
  else
   if (ix x1.conds x493).b = (⟨#[]⟩ : ByteArray) then
    o2 = .inl (w64 (x493 + 1))
   else
    ∃ r537 : Int, (trellisref20_Node x1 ((ix x1.conds x493).b) r537) ∧
    if r537 < 0 then
     o2 = .inr (.inr (false))
    else
     if (ix x1.conds x493).text = (⟨#[]⟩ : ByteArray) then
      o2 = .inl (w64 (x493 + 1))
     else
      o2 = .inr (.inr (false))
 else
  o2 = .inr (.inr (true))
def trellisref20_Shaped_b2 (x1 : api_Query) (x239 : Int) (o1 : Sum Int Bool) : Prop :=
 if x239 < (x1.nodes.length : Int) then
  (0 ≤ x239 ∧ x239 < (x1.nodes.length : Int)) ∧
  if ((ix x1.nodes x239).lit) = true then
   if (ix x1.nodes x239).name = (⟨#[]⟩ : ByteArray) then
    trellisref20_Shaped_j3 x1 x239 true o1
   else
    trellisref20_Shaped_j3 x1 x239 (((ix x1.nodes x239).kids) != 0) o1
  else
   trellisref20_Shaped_j3 x1 x239 false o1
 else
  Rounds (fun (s : Int) o => trellisref20_Shaped_b6 x1 s o) 0 o1
def trellisref20_Shaped_j1 (x1 : api_Query) (x84 : Bool) (r : Bool) : Prop :=
 if x84 = true then
  r = false
 else
  Rounds (fun (s : Int) o => trellisref20_Shaped_b2 x1 s o) 0 r
def trellisref20_Shaped (x1 : api_Query) (r : Bool) : Prop :=
 if (x1.nodes.length : Int) > 32 then
  trellisref20_Shaped_j1 x1 true r
 else
  if (x1.conds.length : Int) > 16 then
   trellisref20_Shaped_j1 x1 true r
  else
   ∃ r549 : Int, (trellisref20_behind x1.nodes 0 r549) ∧
   trellisref20_Shaped_j1 x1 (r549 != (x1.nodes.length : Int)) r
def trellislaw20_lent_b1 (x1 : api_Query) (x53 : Int) (x54 : List api_PatNode) (x59 : List api_Cond) (o1 : Sum (Int × (List api_PatNode) × (List api_Cond)) (api_Query × Nat × Nat)) : Prop :=
 if x53 < 20 then
  ∃ x94 : List api_PatNode, (x94 = x54 ++ ([(⟨(⟨#[]⟩ : ByteArray), false, (⟨#[]⟩ : ByteArray), (⟨#[]⟩ : ByteArray), w64 (900 + x53)⟩ : api_PatNode)] : List api_PatNode)) ∧
  (x94.length * 64 ≤ 211106232532992) ∧
  ∃ x103 : List api_Cond, (x103 = x59 ++ ([(⟨false, (⟨#[]⟩ : ByteArray), (⟨#[]⟩ : ByteArray), (⟨#[109, 97, 114, 107]⟩ : ByteArray)⟩ : api_Cond)] : List api_Cond)) ∧
  (x103.length * 56 ≤ 211106232532992) ∧
  o1 = .inl (w64 (x53 + 1), x94, x103)
 else
  (0 ≤ (0 : Int) ∧ (0 : Int) ≤ (x1.nodes.length : Int) ∧ (x1.nodes.length : Int) ≤ (x54.length : Int)) ∧
  (0 ≤ (0 : Int) ∧ (0 : Int) ≤ (x1.conds.length : Int) ∧ (x1.conds.length : Int) ≤ (x59.length : Int)) ∧
  o1 = .inr (((⟨x54, x59⟩ : api_Query), ((x1.nodes.length : Int) : Int).toNat, ((x1.conds.length : Int) : Int).toNat))
def trellislaw20_lent (x1 : api_Query) (r : api_Query × Nat × Nat) : Prop :=
 ∃ r17 : api_Query, (trellislaw20_twin x1 r17) ∧
 Rounds (fun (s : Int × (List api_PatNode) × (List api_Cond)) o => trellislaw20_lent_b1 x1 s.1 s.2.1 s.2.2 o) (0, r17.nodes, r17.conds) r
def query_subtree_b2 (x1 : List api_PatNode) (x6 : Int) (rc_query_subtree : (List api_PatNode) → Int → Int → Prop) (x26 : Int) (x27 : Int) (o1 : Sum (Int × Int) Int) : Prop :=
 if x27 < (ix x1 x6).kids then
  ∃ r42 : Int, (rc_query_subtree x1 x26 r42) ∧
  if r42 < 0 then
   o1 = .inr (-1)
  else
   o1 = .inl (r42, w64 (x27 + 1))
 else
  o1 = .inr (x26)
def query_subtree_j1 (x6 : Int) (x1 : List api_PatNode) (rc_query_subtree : (List api_PatNode) → Int → Int → Prop) (x11 : Bool) (r : Int) : Prop :=
 if x11 = true then
  r = -1
 else
  (0 ≤ x6 ∧ x6 < (x1.length : Int)) ∧
  Rounds (fun (s : Int × Int) o => query_subtree_b2 x1 x6 rc_query_subtree s.1 s.2 o) (w64 (x6 + 1), 0) r
def query_subtree_body (rc_query_subtree : (List api_PatNode) → Int → Int → Prop) (x1 : List api_PatNode) (x6 : Int) (r : Int) : Prop :=
 if x6 ≥ (x1.length : Int) then
  query_subtree_j1 x6 x1 rc_query_subtree true r
 else
  (0 ≤ x6 ∧ x6 < (x1.length : Int)) ∧
  query_subtree_j1 x6 x1 rc_query_subtree (decide ((ix x1 x6).kids < 0)) r
def query_subtree_n : Nat → (List api_PatNode) → Int → Int → Prop
 | 0 => fun _ _ _ => False
 | n + 1 => query_subtree_body (query_subtree_n n)
def query_subtree (x1 : List api_PatNode) (x6 : Int) (r : Int) : Prop := ∃ n, query_subtree_n n x1 x6 r
def words_digit (x1 : Int) (r : Bool) : Prop :=
 if x1 ≥ 48 then
  r = decide (x1 ≤ 57)
 else
  r = false
def words_letter (x1 : Int) (r : Bool) : Prop :=
 if x1 ≥ 97 then
  if x1 ≤ 122 then
   r = true
  else
   if x1 ≥ 65 then
    if x1 ≤ 90 then
     r = true
    else
     r = (x1 == 95)
   else
    r = (x1 == 95)
 else
  if x1 ≥ 65 then
   if x1 ≤ 90 then
    r = true
   else
    r = (x1 == 95)
  else
   r = (x1 == 95)
def strings_Contains (x1 : ByteArray) (x2 : ByteArray) (r : Bool) : Prop :=
 (x2.size = 1) ∧ r = hasB x1 x2
def words_sound_b2 (x1 : api_Word) (x40 : Int) (o1 : Sum Int Bool) : Prop :=
 if x40 < (x1.text.size : Int) then
  (0 ≤ x40 ∧ x40 < (x1.text.size : Int)) ∧
  ∃ r66 : Bool, (words_letter (bt x1.text x40) r66) ∧
  if r66 = true then
   o1 = .inl (w64 (x40 + 1))
  else
   ∃ r75 : Bool, (words_digit (bt x1.text x40) r75) ∧
   if r75 = true then
    o1 = .inl (w64 (x40 + 1))
   else
    o1 = .inr (false)
 else
  o1 = .inr (true)
def words_sound_j1 (x1 : api_Word) (x17 : Bool) (r : Bool) : Prop :=
 if x17 = true then
  r = false
 else
  Rounds (fun (s : Int) o => words_sound_b2 x1 s o) 0 r
def words_sound_j4 (x1 : api_Word) (x105 : Int) (x120 : Bool) (o1 : Sum Int Bool) : Prop :=
 if x120 = true then
  o1 = .inr (false)
 else
  if bt x1.text x105 = 92 then
   if w64 (x105 + 1) = (x1.text.size : Int) then
    o1 = .inr (false)
   else
    (0 ≤ w64 (x105 + 1) ∧ w64 (x105 + 1) < (x1.text.size : Int)) ∧
    if bt x1.text (w64 (x105 + 1)) = 10 then
     o1 = .inr (false)
    else
     o1 = .inl (w64 ((w64 (x105 + 1)) + 1))
  else
   o1 = .inl (w64 (x105 + 1))
def words_sound_b3 (x1 : api_Word) (x105 : Int) (o1 : Sum Int Bool) : Prop :=
 if x105 < (x1.text.size : Int) then
  (0 ≤ x105 ∧ x105 < (x1.text.size : Int)) ∧
  if bt x1.text x105 = 47 then
   words_sound_j4 x1 x105 ((bt x1.text x105) == 47) o1
  else
   words_sound_j4 x1 x105 ((bt x1.text x105) == 10) o1
 else
  o1 = .inr (true)
def words_sound (x1 : api_Word) (r : Bool) : Prop :=
 if x1.kind = 1 then
  if x1.text = (⟨#[]⟩ : ByteArray) then
   words_sound_j1 x1 true r
  else
   if (x1.text.size : Int) > 24 then
    words_sound_j1 x1 true r
   else
    (0 ≤ (0 : Int) ∧ (0 : Int) < (x1.text.size : Int)) ∧
    ∃ r87 : Bool, (words_digit (bt x1.text 0) r87) ∧
    words_sound_j1 x1 r87 r
 else
  if x1.kind = 2 then
   r = true
  else
   if x1.kind = 3 then
    Rounds (fun (s : Int) o => words_sound_b3 x1 s o) 0 r
   else
    if x1.kind = 4 then
     if x1.n ≥ 0 then
      r = decide (x1.n ≤ 65535)
     else
      r = false
    else
     if x1.kind = 5 then
      if (x1.text.size : Int) = 1 then
       ∃ r133 : Bool, (strings_Contains (⟨#[123, 125, 40, 41, 124, 42, 43, 63, 58, 59, 44, 61, 64]⟩ : ByteArray) x1.text r133) ∧
       r = r133
      else
       r = false
     else
      r = false
def words_quote_j3 (x1 : ByteArray) (x105 : Int) (x100 : List Int) (x247 : Bool) (o1 : Sum ((List Int) × Int) ByteArray) : Prop :=
 if x247 = true then
  (0 ≤ IntKind.u8.wrap (Int.tdiv (bt x1 x105) 16) ∧ IntKind.u8.wrap (Int.tdiv (bt x1 x105) 16) < ((⟨#[48, 49, 50, 51, 52, 53, 54, 55, 56, 57, 97, 98, 99, 100, 101, 102]⟩ : ByteArray).size : Int)) ∧
  (0 ≤ Int.tmod (bt x1 x105) 16 ∧ Int.tmod (bt x1 x105) 16 < ((⟨#[48, 49, 50, 51, 52, 53, 54, 55, 56, 57, 97, 98, 99, 100, 101, 102]⟩ : ByteArray).size : Int)) ∧
  ∃ x257 : List Int, (x257 = x100 ++ ([92, 120, bt (⟨#[48, 49, 50, 51, 52, 53, 54, 55, 56, 57, 97, 98, 99, 100, 101, 102]⟩ : ByteArray) (IntKind.u8.wrap (Int.tdiv (bt x1 x105) 16)), bt (⟨#[48, 49, 50, 51, 52, 53, 54, 55, 56, 57, 97, 98, 99, 100, 101, 102]⟩ : ByteArray) (Int.tmod (bt x1 x105) 16)] : List Int)) ∧
  (x257.length * 1 ≤ 211106232532992) ∧
  o1 = .inl (x257, w64 (x105 + 1))
 else
  ∃ x280 : List Int, (x280 = x100 ++ ([bt x1 x105] : List Int)) ∧
  (x280.length * 1 ≤ 211106232532992) ∧
  o1 = .inl (x280, w64 (x105 + 1))
def words_quote_j2 (x100 : List Int) (x1 : ByteArray) (x105 : Int) (x204 : Bool) (o1 : Sum ((List Int) × Int) ByteArray) : Prop :=
 if x204 = true then
  ∃ x212 : List Int, (x212 = x100 ++ ([92, bt x1 x105] : List Int)) ∧
  (x212.length * 1 ≤ 211106232532992) ∧
  o1 = .inl (x212, w64 (x105 + 1))
 else
  if bt x1 x105 = 10 then
   ∃ x222 : List Int, (x222 = x100 ++ ([92, 110] : List Int)) ∧
   (x222.length * 1 ≤ 211106232532992) ∧
   o1 = .inl (x222, w64 (x105 + 1))
  else
   if bt x1 x105 = 9 then
    ∃ x232 : List Int, (x232 = x100 ++ ([92, 116] : List Int)) ∧
    (x232.length * 1 ≤ 211106232532992) ∧
    o1 = .inl (x232, w64 (x105 + 1))
   else
    if bt x1 x105 = 13 then
     ∃ x242 : List Int, (x242 = x100 ++ ([92, 114] : List Int)) ∧
     (x242.length * 1 ≤ 211106232532992) ∧
     o1 = .inl (x242, w64 (x105 + 1))
    else
     if bt x1 x105 < 32 then
      words_quote_j3 x1 x105 x100 true o1
     else
      words_quote_j3 x1 x105 x100 (decide (bt x1 x105 > 126)) o1
def words_quote_b1 (x1 : ByteArray) (x100 : List Int) (x105 : Int) (o1 : Sum ((List Int) × Int) ByteArray) : Prop :=
 if x105 < (x1.size : Int) then
  (0 ≤ x105 ∧ x105 < (x1.size : Int)) ∧
  if bt x1 x105 = 34 then
   words_quote_j2 x100 x1 x105 true o1
  else
   words_quote_j2 x100 x1 x105 ((bt x1 x105) == 92) o1
 else
  ∃ x291 : List Int, (x291 = x100 ++ ([34] : List Int)) ∧
  (x291.length * 1 ≤ 211106232532992) ∧
  o1 = .inr (ofBs x291)
def words_quote (x1 : ByteArray) (r : ByteArray) : Prop :=
 Rounds (fun (s : (List Int) × Int) o => words_quote_b1 x1 s.1 s.2 o) (([34] : List Int), 0) r
def strconv_Itoa (x1 : Int) (r : ByteArray) : Prop :=
 (-9223372036854775808 ≤ x1 ∧ x1 ≤ 9223372036854775807) ∧ r = itoaB x1
def words_Spell (x1 : api_Word) (r : ByteArray) : Prop :=
 ∃ r7 : Bool, (words_sound x1 r7) ∧
 if r7 = true then
  if x1.kind = 2 then
   ∃ r17 : ByteArray, (words_quote x1.text r17) ∧
   r = r17
  else
   if x1.kind = 3 then
    ((⟨#[47]⟩ : ByteArray).size + x1.text.size ≤ 9223372036854775807) ∧
    (((⟨#[47]⟩ : ByteArray) ++ x1.text).size + (⟨#[47]⟩ : ByteArray).size ≤ 9223372036854775807) ∧
    r = ((⟨#[47]⟩ : ByteArray) ++ x1.text) ++ (⟨#[47]⟩ : ByteArray)
   else
    if x1.kind = 4 then
     ∃ r29 : ByteArray, (strconv_Itoa x1.n r29) ∧
     r = r29
    else
     r = x1.text
 else
  r = (⟨#[]⟩ : ByteArray)
def query_name (x1 : ByteArray) (r : Bool) : Prop :=
 if x1 = (⟨#[95]⟩ : ByteArray) then
  r = false
 else
  ∃ r6 : ByteArray, (words_Spell (⟨1, x1, 0, 0⟩ : api_Word) r6) ∧
  r = (!(seq r6 (⟨#[]⟩ : ByteArray)))
def query_sound_j1 (x1 : api_PatNode) (x17 : Bool) (r : Bool) : Prop :=
 if x17 = true then
  r = false
 else
  if x1.field = (⟨#[]⟩ : ByteArray) then
   if x1.capture = (⟨#[]⟩ : ByteArray) then
    r = true
   else
    ∃ r24 : Bool, (query_name x1.capture r24) ∧
    r = r24
  else
   ∃ r32 : Bool, (query_name x1.field r32) ∧
   if r32 = true then
    if x1.capture = (⟨#[]⟩ : ByteArray) then
     r = true
    else
     ∃ r42 : Bool, (query_name x1.capture r42) ∧
     r = r42
   else
    r = false
def query_sound (x1 : api_PatNode) (r : Bool) : Prop :=
 if x1.lit = true then
  if x1.name = (⟨#[]⟩ : ByteArray) then
   query_sound_j1 x1 true r
  else
   if x1.kids = 0 then
    query_sound_j1 x1 false r
   else
    query_sound_j1 x1 true r
 else
  if x1.name = (⟨#[]⟩ : ByteArray) then
   query_sound_j1 x1 false r
  else
   ∃ r54 : Bool, (query_name x1.name r54) ∧
   query_sound_j1 x1 (!r54) r
def query_captured_1 (x1 : api_PatNode) (x2 : ByteArray) (r : Bool × ByteArray) : Prop :=
 r = ((seq x1.capture x2), x2)
def slices_IndexFunc_api_PatNode_api_PatNode_b1 (x1 : List api_PatNode) (x22 : Int) (x23 : ByteArray) (o1 : Sum (Int × ByteArray) (Int × ByteArray)) : Prop :=
 if x22 < (x1.length : Int) then
  (0 ≤ x22 ∧ x22 < (x1.length : Int)) ∧
  ∃ r42 : Bool × ByteArray, (query_captured_1 (ix x1 x22) x23 r42) ∧
  if r42.1 = true then
   o1 = .inr ((x22, r42.2))
  else
   o1 = .inl (w64 (x22 + 1), r42.2)
 else
  o1 = .inr ((-1, x23))
def slices_IndexFunc_api_PatNode_api_PatNode (x1 : List api_PatNode) (x6 : ByteArray) (r : Int × ByteArray) : Prop :=
 Rounds (fun (s : Int × ByteArray) o => slices_IndexFunc_api_PatNode_api_PatNode_b1 x1 s.1 s.2 o) (0, x6) r
def query_captured (x1 : api_Query) (x10 : ByteArray) (r : Int) : Prop :=
 if x10 = (⟨#[]⟩ : ByteArray) then
  r = -1
 else
  ∃ r19 : Int × ByteArray, (slices_IndexFunc_api_PatNode_api_PatNode x1.nodes x10 r19) ∧
  r = r19.1
def query_Shaped_b3 (x1 : api_Query) (x340 : Int) (o2 : Sum Int (Sum Int Bool)) : Prop :=
 if x340 < (x1.conds.length : Int) then
  (0 ≤ x340 ∧ x340 < (x1.conds.length : Int)) ∧
  ∃ r374 : Int, (query_captured x1 ((ix x1.conds x340).a) r374) ∧
  if r374 < 0 then
   o2 = .inr (.inr (false))
  else
   if (ix x1.conds x340).b = (⟨#[]⟩ : ByteArray) then
    o2 = .inl (w64 (x340 + 1))
   else
    ∃ r384 : Int, (query_captured x1 ((ix x1.conds x340).b) r384) ∧
    if r384 < 0 then
     o2 = .inr (.inr (false))
    else
     if (ix x1.conds x340).text = (⟨#[]⟩ : ByteArray) then
      o2 = .inl (w64 (x340 + 1))
     else
      o2 = .inr (.inr (false))
 else
  o2 = .inr (.inr (true))
def query_Shaped_b2 (x1 : api_Query) (x188 : Int) (o1 : Sum Int Bool) : Prop :=
 if x188 < (x1.nodes.length : Int) then
  (0 ≤ x188 ∧ x188 < (x1.nodes.length : Int)) ∧
  ∃ r298 : Bool, (query_sound (ix x1.nodes x188) r298) ∧
  if r298 = true then
   if (ix x1.nodes x188).capture = (⟨#[]⟩ : ByteArray) then
    o1 = .inl (w64 (x188 + 1))
   else
    ∃ r308 : Int, (query_captured x1 ((ix x1.nodes x188).capture) r308) ∧
    if r308 = x188 then
     o1 = .inl (w64 (x188 + 1))
    else
     o1 = .inr (false)
  else
   o1 = .inr (false)
 else
  Rounds (fun (s : Int) o => query_Shaped_b3 x1 s o) 0 o1
def query_Shaped_j1 (x1 : api_Query) (x84 : Bool) (r : Bool) : Prop :=
 if x84 = true then
  r = false
 else
  Rounds (fun (s : Int) o => query_Shaped_b2 x1 s o) 0 r
def query_Shaped (x1 : api_Query) (r : Bool) : Prop :=
 if (x1.nodes.length : Int) > 32 then
  query_Shaped_j1 x1 true r
 else
  if (x1.conds.length : Int) > 16 then
   query_Shaped_j1 x1 true r
  else
   ∃ r396 : Int, (query_subtree x1.nodes 0 r396) ∧
   query_Shaped_j1 x1 (r396 != (x1.nodes.length : Int)) r
def trellislaw20_same_b3 (x1 : api_Query) (x10 : api_Query) (x134 : Int) (o2 : Sum Int (Sum Int Bool)) : Prop :=
 if x134 < (x1.conds.length : Int) then
  (0 ≤ x134 ∧ x134 < (x1.conds.length : Int)) ∧
  (0 ≤ x134 ∧ x134 < (x10.conds.length : Int)) ∧
  if ix x1.conds x134 = ix x10.conds x134 then
   o2 = .inl (w64 (x134 + 1))
  else
   o2 = .inr (.inr (false))
 else
  o2 = .inr (.inr (true))
def trellislaw20_same_b2 (x1 : api_Query) (x10 : api_Query) (x70 : Int) (o1 : Sum Int Bool) : Prop :=
 if x70 < (x1.nodes.length : Int) then
  (0 ≤ x70 ∧ x70 < (x1.nodes.length : Int)) ∧
  (0 ≤ x70 ∧ x70 < (x10.nodes.length : Int)) ∧
  if ix x1.nodes x70 = ix x10.nodes x70 then
   o1 = .inl (w64 (x70 + 1))
  else
   o1 = .inr (false)
 else
  Rounds (fun (s : Int) o => trellislaw20_same_b3 x1 x10 s o) 0 o1
def trellislaw20_same_j1 (x1 : api_Query) (x10 : api_Query) (x25 : Bool) (r : Bool) : Prop :=
 if x25 = true then
  r = false
 else
  Rounds (fun (s : Int) o => trellislaw20_same_b2 x1 x10 s o) 0 r
def trellislaw20_same (x1 : api_Query) (x10 : api_Query) (r : Bool) : Prop :=
 if (x1.nodes.length : Int) = (x10.nodes.length : Int) then
  trellislaw20_same_j1 x1 x10 ((x1.conds.length : Int) != (x10.conds.length : Int)) r
 else
  trellislaw20_same_j1 x1 x10 true r
def trellislaw20_still_b1 (x16 : api_Query) (x1 : api_Query) (k6 : Nat) (k13 : Nat) (x42 : Int) (o1 : Sum Int Bool) : Prop :=
 if x42 < 20 then
  (0 ≤ w64 ((x16.nodes.length : Int) + x42) ∧ w64 ((x16.nodes.length : Int) + x42) < ((x1.nodes.take ((w64 ((x16.nodes.length : Int) + 20) : Int).toNat)).length : Int)) ∧
  if ix (x1.nodes.take ((w64 ((x16.nodes.length : Int) + 20) : Int).toNat)) (w64 ((x16.nodes.length : Int) + x42)) = (⟨(⟨#[]⟩ : ByteArray), false, (⟨#[]⟩ : ByteArray), (⟨#[]⟩ : ByteArray), w64 (900 + x42)⟩ : api_PatNode) then
   (0 ≤ w64 ((x16.conds.length : Int) + x42) ∧ w64 ((x16.conds.length : Int) + x42) < ((x1.conds.take ((w64 ((x16.conds.length : Int) + 20) : Int).toNat)).length : Int)) ∧
   if ix (x1.conds.take ((w64 ((x16.conds.length : Int) + 20) : Int).toNat)) (w64 ((x16.conds.length : Int) + x42)) = (⟨false, (⟨#[]⟩ : ByteArray), (⟨#[]⟩ : ByteArray), (⟨#[109, 97, 114, 107]⟩ : ByteArray)⟩ : api_Cond) then
    o1 = .inl (w64 (x42 + 1))
   else
    o1 = .inr (false)
  else
   o1 = .inr (false)
 else
  ∃ r68 : Bool, (trellislaw20_same (⟨(x1.nodes.take k6), (x1.conds.take k13)⟩ : api_Query) x16 r68) ∧
  o1 = .inr (r68)
def trellislaw20_still (x1 : api_Query) (k6 : Nat) (k13 : Nat) (x16 : api_Query) (r : Bool) : Prop :=
 (0 ≤ w64 ((x16.nodes.length : Int) + 20) ∧ w64 ((x16.nodes.length : Int) + 20) ≤ (x1.nodes.length : Int)) ∧
 (0 ≤ w64 ((x16.conds.length : Int) + 20) ∧ w64 ((x16.conds.length : Int) + 20) ≤ (x1.conds.length : Int)) ∧
 Rounds (fun (s : Int) o => trellislaw20_still_b1 x16 x1 k6 k13 s o) 0 r
def trellisref20_word (x1 : Int) (x2 : ByteArray) (r : List api_Word) : Prop :=
 r = ([(⟨x1, x2, 0, 0⟩ : api_Word)] : List api_Word)
def trellisref20_put_b1 (x8 : List api_Word) (x26 : List api_Word) (x31 : Int) (o1 : Sum ((List api_Word) × Int) (List api_Word)) : Prop :=
 if x31 < (x8.length : Int) then
  (0 ≤ x31 ∧ x31 < (x8.length : Int)) ∧
  ∃ x53 : List api_Word, (x53 = x26 ++ ([ix x8 x31] : List api_Word)) ∧
  (x53.length * 40 ≤ 211106232532992) ∧
  o1 = .inl (x53, w64 (x31 + 1))
 else
  o1 = .inr (x26)
def trellisref20_put (x1 : List api_Word) (x8 : List api_Word) (r : List api_Word) : Prop :=
 Rounds (fun (s : (List api_Word) × Int) o => trellisref20_put_b1 x8 s.1 s.2 o) (x1, 0) r
def trellisref20_spelt_j2 (x1 : List api_PatNode) (x6 : Int) (x331 : List api_Word) (r : List api_Word) : Prop :=
 if (ix x1 x6).capture = (⟨#[]⟩ : ByteArray) then
  r = x331
 else
  ∃ r340 : List api_Word, (trellisref20_word 5 (⟨#[64]⟩ : ByteArray) r340) ∧
  ∃ r353 : List api_Word, (trellisref20_put x331 r340 r353) ∧
  ∃ r366 : List api_Word, (trellisref20_word 1 ((ix x1 x6).capture) r366) ∧
  ∃ r379 : List api_Word, (trellisref20_put r353 r366 r379) ∧
  r = r379
def trellisref20_spelt_b4 (x1 : List api_PatNode) (x6 : Int) (rc_trellisref20_spelt : (List api_PatNode) → Int → (List api_Word) → Prop) (x734 : List api_Word) (x739 : Int) (x740 : Int) (o1 : Sum ((List api_Word) × Int × Int) (List api_Word)) : Prop :=
 if x740 < (ix x1 x6).kids then
  ∃ r808 : List api_Word, (rc_trellisref20_spelt x1 x739 r808) ∧
  ∃ r821 : List api_Word, (trellisref20_put x734 r808 r821) ∧
  ∃ r834 : Int, (trellisref20_behind x1 x739 r834) ∧
  o1 = .inl (r821, r834, w64 (x740 + 1))
 else
  ∃ r842 : List api_Word, (trellisref20_word 5 (⟨#[41]⟩ : ByteArray) r842) ∧
  ∃ r855 : List api_Word, (trellisref20_put x734 r842 r855) ∧
  ∃ q865 : List api_Word, (o1 = .inr (q865)) ∧
  trellisref20_spelt_j2 x1 x6 r855 q865
def trellisref20_spelt_j3 (x52 : List api_Word) (x1 : List api_PatNode) (x6 : Int) (rc_trellisref20_spelt : (List api_PatNode) → Int → (List api_Word) → Prop) (x617 : ByteArray) (r : List api_Word) : Prop :=
 ∃ r621 : List api_Word, (trellisref20_word 5 (⟨#[40]⟩ : ByteArray) r621) ∧
 ∃ r634 : List api_Word, (trellisref20_put x52 r621 r634) ∧
 ∃ r647 : List api_Word, (trellisref20_word 1 x617 r647) ∧
 ∃ r660 : List api_Word, (trellisref20_put r634 r647 r660) ∧
 Rounds (fun (s : (List api_Word) × Int × Int) o => trellisref20_spelt_b4 x1 x6 rc_trellisref20_spelt s.1 s.2.1 s.2.2 o) (r660, w64 (x6 + 1), 0) r
def trellisref20_spelt_j1 (x1 : List api_PatNode) (x6 : Int) (rc_trellisref20_spelt : (List api_PatNode) → Int → (List api_Word) → Prop) (x52 : List api_Word) (r : List api_Word) : Prop :=
 if ((ix x1 x6).lit) = true then
  ∃ r592 : List api_Word, (trellisref20_word 2 ((ix x1 x6).name) r592) ∧
  ∃ r605 : List api_Word, (trellisref20_put x52 r592 r605) ∧
  trellisref20_spelt_j2 x1 x6 r605 r
 else
  if (ix x1 x6).name = (⟨#[]⟩ : ByteArray) then
   trellisref20_spelt_j3 x52 x1 x6 rc_trellisref20_spelt (⟨#[95]⟩ : ByteArray) r
  else
   trellisref20_spelt_j3 x52 x1 x6 rc_trellisref20_spelt ((ix x1 x6).name) r
def trellisref20_spelt_body (rc_trellisref20_spelt : (List api_PatNode) → Int → (List api_Word) → Prop) (x1 : List api_PatNode) (x6 : Int) (r : List api_Word) : Prop :=
 (0 ≤ x6 ∧ x6 < (x1.length : Int)) ∧
 if (ix x1 x6).field = (⟨#[]⟩ : ByteArray) then
  trellisref20_spelt_j1 x1 x6 rc_trellisref20_spelt ([] : List api_Word) r
 else
  ∃ r870 : List api_Word, (trellisref20_word 1 ((ix x1 x6).field) r870) ∧
  ∃ r883 : List api_Word, (trellisref20_word 5 (⟨#[58]⟩ : ByteArray) r883) ∧
  ∃ r896 : List api_Word, (trellisref20_put r870 r883 r896) ∧
  trellisref20_spelt_j1 x1 x6 rc_trellisref20_spelt r896 r
def trellisref20_spelt_n : Nat → (List api_PatNode) → Int → (List api_Word) → Prop
 | 0 => fun _ _ _ => False
 | n + 1 => trellisref20_spelt_body (trellisref20_spelt_n n)
def trellisref20_spelt (x1 : List api_PatNode) (x6 : Int) (r : List api_Word) : Prop := ∃ n, trellisref20_spelt_n n x1 x6 r
def trellisref8_byteOf_j1 (x1 : Int) (x9 : Bool) (r : ByteArray) : Prop :=
 if x9 = true then
  (0 ≤ IntKind.u8.wrap (Int.tdiv x1 16) ∧ IntKind.u8.wrap (Int.tdiv x1 16) ≤ IntKind.u8.wrap ((IntKind.u8.wrap (Int.tdiv x1 16)) + 1) ∧ IntKind.u8.wrap ((IntKind.u8.wrap (Int.tdiv x1 16)) + 1) ≤ ((⟨#[48, 49, 50, 51, 52, 53, 54, 55, 56, 57, 97, 98, 99, 100, 101, 102, 65, 66, 67, 68, 69, 70]⟩ : ByteArray).size : Int)) ∧
  ((⟨#[92, 120]⟩ : ByteArray).size + ((⟨#[48, 49, 50, 51, 52, 53, 54, 55, 56, 57, 97, 98, 99, 100, 101, 102, 65, 66, 67, 68, 69, 70]⟩ : ByteArray).extract (IntKind.u8.wrap (Int.tdiv x1 16) : Int).toNat (IntKind.u8.wrap ((IntKind.u8.wrap (Int.tdiv x1 16)) + 1) : Int).toNat).size ≤ 9223372036854775807) ∧
  (0 ≤ Int.tmod x1 16 ∧ Int.tmod x1 16 ≤ IntKind.u8.wrap ((Int.tmod x1 16) + 1) ∧ IntKind.u8.wrap ((Int.tmod x1 16) + 1) ≤ ((⟨#[48, 49, 50, 51, 52, 53, 54, 55, 56, 57, 97, 98, 99, 100, 101, 102, 65, 66, 67, 68, 69, 70]⟩ : ByteArray).size : Int)) ∧
  (((⟨#[92, 120]⟩ : ByteArray) ++ ((⟨#[48, 49, 50, 51, 52, 53, 54, 55, 56, 57, 97, 98, 99, 100, 101, 102, 65, 66, 67, 68, 69, 70]⟩ : ByteArray).extract (IntKind.u8.wrap (Int.tdiv x1 16) : Int).toNat (IntKind.u8.wrap ((IntKind.u8.wrap (Int.tdiv x1 16)) + 1) : Int).toNat)).size + ((⟨#[48, 49, 50, 51, 52, 53, 54, 55, 56, 57, 97, 98, 99, 100, 101, 102, 65, 66, 67, 68, 69, 70]⟩ : ByteArray).extract (Int.tmod x1 16 : Int).toNat (IntKind.u8.wrap ((Int.tmod x1 16) + 1) : Int).toNat).size ≤ 9223372036854775807) ∧
  r = ((⟨#[92, 120]⟩ : ByteArray) ++ ((⟨#[48, 49, 50, 51, 52, 53, 54, 55, 56, 57, 97, 98, 99, 100, 101, 102, 65, 66, 67, 68, 69, 70]⟩ : ByteArray).extract (IntKind.u8.wrap (Int.tdiv x1 16) : Int).toNat (IntKind.u8.wrap ((IntKind.u8.wrap (Int.tdiv x1 16)) + 1) : Int).toNat)) ++ ((⟨#[48, 49, 50, 51, 52, 53, 54, 55, 56, 57, 97, 98, 99, 100, 101, 102, 65, 66, 67, 68, 69, 70]⟩ : ByteArray).extract (Int.tmod x1 16 : Int).toNat (IntKind.u8.wrap ((Int.tmod x1 16) + 1) : Int).toNat)
 else
  r = ofBs ([x1] : List Int)
def trellisref8_byteOf (x1 : Int) (r : ByteArray) : Prop :=
 if x1 = 34 then
  r = (⟨#[92, 34]⟩ : ByteArray)
 else
  if x1 = 92 then
   r = (⟨#[92, 92]⟩ : ByteArray)
  else
   if x1 = 10 then
    r = (⟨#[92, 110]⟩ : ByteArray)
   else
    if x1 = 9 then
     r = (⟨#[92, 116]⟩ : ByteArray)
    else
     if x1 = 13 then
      r = (⟨#[92, 114]⟩ : ByteArray)
     else
      if x1 < 32 then
       trellisref8_byteOf_j1 x1 true r
      else
       trellisref8_byteOf_j1 x1 (decide (x1 > 126)) r
def trellisref8_Spell_b1 (x1 : api_Word) (x27 : ByteArray) (x28 : Int) (o1 : Sum (ByteArray × Int) ByteArray) : Prop :=
 if x28 < (x1.text.size : Int) then
  (0 ≤ x28 ∧ x28 < (x1.text.size : Int)) ∧
  ∃ r46 : ByteArray, (trellisref8_byteOf (bt x1.text x28) r46) ∧
  (x27.size + r46.size ≤ 9223372036854775807) ∧
  o1 = .inl (x27 ++ r46, w64 (x28 + 1))
 else
  (x27.size + (⟨#[34]⟩ : ByteArray).size ≤ 9223372036854775807) ∧
  o1 = .inr (x27 ++ (⟨#[34]⟩ : ByteArray))
def trellisref8_Spell (x1 : api_Word) (r : ByteArray) : Prop :=
 ∃ r7 : Bool, (trellisref8_Sound x1 r7) ∧
 if r7 = true then
  if x1.kind = 2 then
   Rounds (fun (s : ByteArray × Int) o => trellisref8_Spell_b1 x1 s.1 s.2 o) ((⟨#[34]⟩ : ByteArray), 0) r
  else
   if x1.kind = 3 then
    ((⟨#[47]⟩ : ByteArray).size + x1.text.size ≤ 9223372036854775807) ∧
    (((⟨#[47]⟩ : ByteArray) ++ x1.text).size + (⟨#[47]⟩ : ByteArray).size ≤ 9223372036854775807) ∧
    r = ((⟨#[47]⟩ : ByteArray) ++ x1.text) ++ (⟨#[47]⟩ : ByteArray)
   else
    if x1.kind = 4 then
     ∃ r60 : ByteArray, (strconv_Itoa x1.n r60) ∧
     r = r60
    else
     r = x1.text
 else
  r = (⟨#[]⟩ : ByteArray)
def trellisref8_Join_b1 (x1 : List api_Word) (x29 : ByteArray) (x30 : Int) (o1 : Sum (ByteArray × Int) ByteArray) : Prop :=
 if x30 < (x1.length : Int) then
  (0 ≤ x30 ∧ x30 < (x1.length : Int)) ∧
  ∃ r71 : Bool, (trellisref8_Sound (ix x1 x30) r71) ∧
  if r71 = true then
   if x30 > 0 then
    (x29.size + (⟨#[32]⟩ : ByteArray).size ≤ 9223372036854775807) ∧
    ∃ r83 : ByteArray, (trellisref8_Spell (ix x1 x30) r83) ∧
    ((x29 ++ (⟨#[32]⟩ : ByteArray)).size + r83.size ≤ 9223372036854775807) ∧
    o1 = .inl ((x29 ++ (⟨#[32]⟩ : ByteArray)) ++ r83, w64 (x30 + 1))
   else
    ∃ r93 : ByteArray, (trellisref8_Spell (ix x1 x30) r93) ∧
    (x29.size + r93.size ≤ 9223372036854775807) ∧
    o1 = .inl (x29 ++ r93, w64 (x30 + 1))
  else
   o1 = .inr ((⟨#[]⟩ : ByteArray))
 else
  o1 = .inr (x29)
def trellisref8_Join (x1 : List api_Word) (r : ByteArray) : Prop :=
 Rounds (fun (s : ByteArray × Int) o => trellisref8_Join_b1 x1 s.1 s.2 o) ((⟨#[]⟩ : ByteArray), 0) r
def trellisref20_Print_j2 (x714 : List api_Word) (x1 : api_Query) (x719 : Int) (x1406 : ByteArray) (o1 : Sum ((List api_Word) × Int) (ByteArray × Int)) : Prop :=
 ∃ r1410 : List api_Word, (trellisref20_word 1 x1406 r1410) ∧
 ∃ r1423 : List api_Word, (trellisref20_put x714 r1410 r1423) ∧
 ∃ r1436 : List api_Word, (trellisref20_word 5 (⟨#[64]⟩ : ByteArray) r1436) ∧
 ∃ r1449 : List api_Word, (trellisref20_put r1423 r1436 r1449) ∧
 ∃ r1462 : List api_Word, (trellisref20_word 1 ((ix x1.conds x719).a) r1462) ∧
 ∃ r1475 : List api_Word, (trellisref20_put r1449 r1462 r1475) ∧
 ∃ r1768 : List api_Word, (trellisref20_word 5 (⟨#[61]⟩ : ByteArray) r1768) ∧
 ∃ r1781 : List api_Word, (trellisref20_put r1475 r1768 r1781) ∧
 if (ix x1.conds x719).b = (⟨#[]⟩ : ByteArray) then
  ∃ r1795 : List api_Word, (trellisref20_word 2 ((ix x1.conds x719).text) r1795) ∧
  ∃ r1808 : List api_Word, (trellisref20_put r1781 r1795 r1808) ∧
  o1 = .inl (r1808, w64 (x719 + 1))
 else
  ∃ r1821 : List api_Word, (trellisref20_word 5 (⟨#[64]⟩ : ByteArray) r1821) ∧
  ∃ r1834 : List api_Word, (trellisref20_put r1781 r1821 r1834) ∧
  ∃ r1847 : List api_Word, (trellisref20_word 1 ((ix x1.conds x719).b) r1847) ∧
  ∃ r1860 : List api_Word, (trellisref20_put r1834 r1847 r1860) ∧
  o1 = .inl (r1860, w64 (x719 + 1))
def trellisref20_Print_b1 (x1 : api_Query) (x714 : List api_Word) (x719 : Int) (o1 : Sum ((List api_Word) × Int) (ByteArray × Int)) : Prop :=
 if x719 < (x1.conds.length : Int) then
  (0 ≤ x719 ∧ x719 < (x1.conds.length : Int)) ∧
  if ((ix x1.conds x719).not) = true then
   trellisref20_Print_j2 x714 x1 x719 (⟨#[117, 110, 108, 101, 115, 115]⟩ : ByteArray) o1
  else
   trellisref20_Print_j2 x714 x1 x719 (⟨#[119, 104, 101, 110]⟩ : ByteArray) o1
 else
  ∃ r2073 : ByteArray, (trellisref8_Join x714 r2073) ∧
  o1 = .inr ((r2073, 0))
def trellisref20_Print (x1 : api_Query) (r : ByteArray × Int) : Prop :=
 ∃ r15 : Bool, (trellisref20_Shaped x1 r15) ∧
 if r15 = true then
  ∃ r24 : List api_Word, (trellisref20_spelt x1.nodes 0 r24) ∧
  Rounds (fun (s : (List api_Word) × Int) o => trellisref20_Print_b1 x1 s.1 s.2 o) (r24, 0) r
 else
  r = ((⟨#[]⟩ : ByteArray), 200)
def query_Print_1 (x1 : Int) (x2 : ByteArray) (x3 : List api_Word) (r : List api_Word) : Prop :=
 ∃ x18 : List api_Word, (x18 = x3 ++ ([(⟨x1, x2, 0, 0⟩ : api_Word)] : List api_Word)) ∧
 (x18.length * 40 ≤ 211106232532992) ∧
 r = x18
def query_Print_2_j2 (x1 : api_Query) (x12 : Int) (x241 : List api_Word) (x246 : Int) (r : api_Query × Int × (List api_Word)) : Prop :=
 if (ix x1.nodes x12).capture = (⟨#[]⟩ : ByteArray) then
  r = (x1, x246, x241)
 else
  ∃ r251 : List api_Word, (query_Print_1 5 (⟨#[64]⟩ : ByteArray) x241 r251) ∧
  ∃ r264 : List api_Word, (query_Print_1 1 ((ix x1.nodes x12).capture) r251 r264) ∧
  r = (x1, x246, r264)
def query_Print_2_b4 (x1 : api_Query) (x12 : Int) (rc_query_Print_2 : api_Query → Int → (List api_Word) → (api_Query × Int × (List api_Word)) → Prop) (x363 : Int) (x364 : List api_Word) (x369 : Int) (o1 : Sum (Int × (List api_Word) × Int) (api_Query × Int × (List api_Word))) : Prop :=
 if x363 < (ix x1.nodes x12).kids then
  ∃ r403 : api_Query × Int × (List api_Word), (rc_query_Print_2 x1 x369 x364 r403) ∧
  o1 = .inl (w64 (x363 + 1), r403.2.2, r403.2.1)
 else
  ∃ r416 : List api_Word, (query_Print_1 5 (⟨#[41]⟩ : ByteArray) x364 r416) ∧
  ∃ q426 : api_Query × Int × (List api_Word), (o1 = .inr (q426)) ∧
  query_Print_2_j2 x1 x12 r416 x369 q426
def query_Print_2_j3 (x1 : api_Query) (x12 : Int) (rc_query_Print_2 : api_Query → Int → (List api_Word) → (api_Query × Int × (List api_Word)) → Prop) (x328 : List api_Word) (r : api_Query × Int × (List api_Word)) : Prop :=
 Rounds (fun (s : Int × (List api_Word) × Int) o => query_Print_2_b4 x1 x12 rc_query_Print_2 s.1 s.2.1 s.2.2 o) (0, x328, w64 (x12 + 1)) r
def query_Print_2_j1 (x1 : api_Query) (x12 : Int) (rc_query_Print_2 : api_Query → Int → (List api_Word) → (api_Query × Int × (List api_Word)) → Prop) (x60 : List api_Word) (r : api_Query × Int × (List api_Word)) : Prop :=
 if ((ix x1.nodes x12).lit) = true then
  ∃ r277 : List api_Word, (query_Print_1 2 ((ix x1.nodes x12).name) x60 r277) ∧
  query_Print_2_j2 x1 x12 r277 (w64 (x12 + 1)) r
 else
  ∃ r290 : List api_Word, (query_Print_1 5 (⟨#[40]⟩ : ByteArray) x60 r290) ∧
  if (ix x1.nodes x12).name = (⟨#[]⟩ : ByteArray) then
   ∃ r431 : List api_Word, (query_Print_1 1 (⟨#[95]⟩ : ByteArray) r290 r431) ∧
   query_Print_2_j3 x1 x12 rc_query_Print_2 r431 r
  else
   ∃ r444 : List api_Word, (query_Print_1 1 ((ix x1.nodes x12).name) r290 r444) ∧
   query_Print_2_j3 x1 x12 rc_query_Print_2 r444 r
def query_Print_2_body (rc_query_Print_2 : api_Query → Int → (List api_Word) → (api_Query × Int × (List api_Word)) → Prop) (x1 : api_Query) (x12 : Int) (x19 : List api_Word) (r : api_Query × Int × (List api_Word)) : Prop :=
 (0 ≤ x12 ∧ x12 < (x1.nodes.length : Int)) ∧
 if (ix x1.nodes x12).field = (⟨#[]⟩ : ByteArray) then
  query_Print_2_j1 x1 x12 rc_query_Print_2 x19 r
 else
  ∃ r457 : List api_Word, (query_Print_1 1 ((ix x1.nodes x12).field) x19 r457) ∧
  ∃ r470 : List api_Word, (query_Print_1 5 (⟨#[58]⟩ : ByteArray) r457 r470) ∧
  query_Print_2_j1 x1 x12 rc_query_Print_2 r470 r
def query_Print_2_n : Nat → api_Query → Int → (List api_Word) → (api_Query × Int × (List api_Word)) → Prop
 | 0 => fun _ _ _ _ => False
 | n + 1 => query_Print_2_body (query_Print_2_n n)
def query_Print_2 (x1 : api_Query) (x12 : Int) (x19 : List api_Word) (r : api_Query × Int × (List api_Word)) : Prop := ∃ n, query_Print_2_n n x1 x12 x19 r
def strings_Join (x1 : List ByteArray) (x6 : ByteArray) (r : ByteArray) : Prop :=
 (x1.length ≤ 140737488355328) ∧ ((joinB x1 x6).size ≤ 140737488355328) ∧ r = joinB x1 x6
def words_Join_b1 (x1 : List api_Word) (x47 : List ByteArray) (x52 : Int) (o1 : Sum ((List ByteArray) × Int) ByteArray) : Prop :=
 if x52 < (x1.length : Int) then
  (0 ≤ x52 ∧ x52 < (x1.length : Int)) ∧
  ∃ r100 : Bool, (words_sound (ix x1 x52) r100) ∧
  if r100 = true then
   ∃ r109 : ByteArray, (words_Spell (ix x1 x52) r109) ∧
   ∃ x120 : List ByteArray, (x120 = x47 ++ ([r109] : List ByteArray)) ∧
   (x120.length * 16 ≤ 211106232532992) ∧
   o1 = .inl (x120, w64 (x52 + 1))
  else
   o1 = .inr ((⟨#[]⟩ : ByteArray))
 else
  ∃ r126 : ByteArray, (strings_Join x47 (⟨#[32]⟩ : ByteArray) r126) ∧
  o1 = .inr (r126)
def words_Join (x1 : List api_Word) (r : ByteArray) : Prop :=
 Rounds (fun (s : (List ByteArray) × Int) o => words_Join_b1 x1 s.1 s.2 o) (([] : List ByteArray), 0) r
def query_Print_j2 (x1 : api_Query) (x195 : Int) (x385 : List api_Word) (o1 : Sum (Int × (List api_Word)) (ByteArray × Int)) : Prop :=
 ∃ r393 : List api_Word, (query_Print_1 5 (⟨#[64]⟩ : ByteArray) x385 r393) ∧
 ∃ r406 : List api_Word, (query_Print_1 1 ((ix x1.conds x195).a) r393 r406) ∧
 ∃ r419 : List api_Word, (query_Print_1 5 (⟨#[61]⟩ : ByteArray) r406 r419) ∧
 if (ix x1.conds x195).b = (⟨#[]⟩ : ByteArray) then
  ∃ r433 : List api_Word, (query_Print_1 2 ((ix x1.conds x195).text) r419 r433) ∧
  o1 = .inl (w64 (x195 + 1), r433)
 else
  ∃ r446 : List api_Word, (query_Print_1 5 (⟨#[64]⟩ : ByteArray) r419 r446) ∧
  ∃ r459 : List api_Word, (query_Print_1 1 ((ix x1.conds x195).b) r446 r459) ∧
  o1 = .inl (w64 (x195 + 1), r459)
def query_Print_b1 (x1 : api_Query) (x195 : Int) (x196 : List api_Word) (o1 : Sum (Int × (List api_Word)) (ByteArray × Int)) : Prop :=
 if x195 < (x1.conds.length : Int) then
  (0 ≤ x195 ∧ x195 < (x1.conds.length : Int)) ∧
  if ((ix x1.conds x195).not) = true then
   ∃ r472 : List api_Word, (query_Print_1 1 (⟨#[117, 110, 108, 101, 115, 115]⟩ : ByteArray) x196 r472) ∧
   query_Print_j2 x1 x195 r472 o1
  else
   ∃ r485 : List api_Word, (query_Print_1 1 (⟨#[119, 104, 101, 110]⟩ : ByteArray) x196 r485) ∧
   query_Print_j2 x1 x195 r485 o1
 else
  ∃ r498 : ByteArray, (words_Join x196 r498) ∧
  o1 = .inr ((r498, 0))
def query_Print (x1 : api_Query) (r : ByteArray × Int) : Prop :=
 ∃ r15 : Bool, (query_Shaped x1 r15) ∧
 if r15 = true then
  ∃ r33 : api_Query × Int × (List api_Word), (query_Print_2 x1 0 ([] : List api_Word) r33) ∧
  Rounds (fun (s : Int × (List api_Word)) o => query_Print_b1 x1 s.1 s.2 o) (0, r33.2.2) r
 else
  r = ((⟨#[]⟩ : ByteArray), 200)
def trellislaw20_again (x1 : api_Query) (r : Bool) : Prop :=
 ∃ r15 : api_Query, (trellislaw20_twin x1 r15) ∧
 ∃ r35 : ByteArray × Int, (trellisref20_Print r15 r35) ∧
 ∃ r43 : Bool, (trellisref20_Shaped r15 r43) ∧
 ∃ r51 : Bool, (query_Shaped x1 r51) ∧
 ∃ r59 : ByteArray × Int, (query_Print x1 r59) ∧
 if (r51 == r43) = true then
  if r59.1 = r35.1 then
   if r59.2 = r35.2 then
    ∃ r70 : Bool, (trellislaw20_same x1 r15 r70) ∧
    r = r70
   else
    r = false
  else
   r = false
 else
  r = false
def trellislaw20_QueryPrints_b4 (r60 : api_Query × Nat × Nat) (x1152 : List api_Cond) (x1393 : Int) (x1394 : List api_PatNode) (o3 : Sum (Int × (List api_PatNode)) (Sum (Int × (List api_Cond)) (Sum (Int × (List api_PatNode)) Bool))) : Prop :=
 if x1393 < ((x1394.take r60.2.1).length : Int) then
  (0 ≤ x1393 ∧ x1393 < ((x1394.take r60.2.1).length : Int)) ∧
  ∃ x1445 : List api_PatNode, (x1445 = x1394.set (x1393 : Int).toNat (⟨(⟨#[118]⟩ : ByteArray), false, (⟨#[]⟩ : ByteArray), (⟨#[]⟩ : ByteArray), 1⟩ : api_PatNode)) ∧
  o3 = .inl (w64 (x1393 + 1), x1445)
 else
  if ((x1394.take r60.2.1).length : Int) > 0 then
   (0 ≤ w64 (((x1394.take r60.2.1).length : Int) - 1) ∧ w64 (((x1394.take r60.2.1).length : Int) - 1) < ((x1394.take r60.2.1).length : Int)) ∧
   ∃ x1451 : List api_PatNode, (x1451 = x1394.set (w64 (((x1394.take r60.2.1).length : Int) - 1) : Int).toNat ({ (ix x1394 (w64 (((x1394.take r60.2.1).length : Int) - 1))) with kids := 0 })) ∧
   ∃ r1457 : Bool, (trellisref20_Beyond (x1451.take r60.2.1) r1457) ∧
   if r1457 = true then
    o3 = .inr (.inr (.inr (true)))
   else
    ∃ r1466 : Bool, (trellislaw20_again (⟨(x1451.take r60.2.1), (x1152.take r60.2.2)⟩ : api_Query) r1466) ∧
    o3 = .inr (.inr (.inr (r1466)))
  else
   ∃ r1474 : Bool, (trellisref20_Beyond (x1394.take r60.2.1) r1474) ∧
   if r1474 = true then
    o3 = .inr (.inr (.inr (true)))
   else
    ∃ r1483 : Bool, (trellislaw20_again (⟨(x1394.take r60.2.1), (x1152.take r60.2.2)⟩ : api_Query) r1483) ∧
    o3 = .inr (.inr (.inr (r1483)))
def trellislaw20_QueryPrints_b3 (r60 : api_Query × Nat × Nat) (x450 : List api_PatNode) (x1151 : Int) (x1152 : List api_Cond) (o2 : Sum (Int × (List api_Cond)) (Sum (Int × (List api_PatNode)) Bool)) : Prop :=
 if x1151 < ((x1152.take r60.2.2).length : Int) then
  (0 ≤ w64 (((x1152.take r60.2.2).length : Int) - 1) ∧ w64 (((x1152.take r60.2.2).length : Int) - 1) < ((x1152.take r60.2.2).length : Int)) ∧
  (0 ≤ x1151 ∧ x1151 < ((x1152.take r60.2.2).length : Int)) ∧
  ∃ x1326 : List api_Cond, (x1326 = x1152.set (x1151 : Int).toNat (ix x1152 (w64 (((x1152.take r60.2.2).length : Int) - 1)))) ∧
  o2 = .inl (w64 (x1151 + 1), x1326)
 else
  ∃ r1338 : Bool, (trellislaw20_again (⟨(x450.take r60.2.1), (x1152.take r60.2.2)⟩ : api_Query) r1338) ∧
  if r1338 = true then
   Rounds (fun (s : Int × (List api_PatNode)) o => trellislaw20_QueryPrints_b4 r60 x1152 s.1 s.2 o) (0, x450) o2
  else
   o2 = .inr (.inr (false))
def trellislaw20_QueryPrints_b2 (r60 : api_Query × Nat × Nat) (x449 : Int) (x450 : List api_PatNode) (o1 : Sum (Int × (List api_PatNode)) Bool) : Prop :=
 if x449 < ((x450.take r60.2.1).length : Int) then
  (0 ≤ x449 ∧ x449 < ((x450.take r60.2.1).length : Int)) ∧
  ∃ x973 : List api_PatNode, (x973 = x450.set (x449 : Int).toNat ({ (ix x450 x449) with kids := 0 })) ∧
  (0 ≤ x449 ∧ x449 < ((x973.take r60.2.1).length : Int)) ∧
  ∃ x978 : List api_PatNode, (x978 = x973.set (x449 : Int).toNat ({ (ix x973 x449) with name := (⟨#[119]⟩ : ByteArray) })) ∧
  o1 = .inl (w64 (x449 + 1), x978)
 else
  Rounds (fun (s : Int × (List api_Cond)) o => trellislaw20_QueryPrints_b3 r60 x450 s.1 s.2 o) (0, r60.1.conds) o1
def trellislaw20_QueryPrints_j1 (r60 : api_Query × Nat × Nat) (x107 : Bool) (r : Bool) : Prop :=
 if x107 = true then
  r = false
 else
  Rounds (fun (s : Int × (List api_PatNode)) o => trellislaw20_QueryPrints_b2 r60 s.1 s.2 o) (0, r60.1.nodes) r
def trellislaw20_QueryPrints (x1 : api_Query) (r : Bool) : Prop :=
 ∃ r15 : Bool, (trellisref20_Beyond x1.nodes r15) ∧
 if r15 = true then
  r = true
 else
  ∃ r24 : api_Query, (trellislaw20_twin x1 r24) ∧
  ∃ r44 : ByteArray × Int, (trellisref20_Print r24 r44) ∧
  ∃ r52 : Bool, (trellisref20_Shaped r24 r52) ∧
  ∃ r60 : api_Query × Nat × Nat, (trellislaw20_lent x1 r60) ∧
  ∃ r82 : Bool, (query_Shaped (⟨(r60.1.nodes.take r60.2.1), (r60.1.conds.take r60.2.2)⟩ : api_Query) r82) ∧
  ∃ r90 : ByteArray × Int, (query_Print (⟨(r60.1.nodes.take r60.2.1), (r60.1.conds.take r60.2.2)⟩ : api_Query) r90) ∧
  if (r82 != r52) = true then
   trellislaw20_QueryPrints_j1 r60 true r
  else
   if r90.1 = r44.1 then
    if r90.2 = r44.2 then
     ∃ r1494 : Bool, (trellislaw20_still (⟨r60.1.nodes, r60.1.conds⟩ : api_Query) r60.2.1 r60.2.2 r24 r1494) ∧
     trellislaw20_QueryPrints_j1 r60 (!r1494) r
    else
     trellislaw20_QueryPrints_j1 r60 true r
   else
    trellislaw20_QueryPrints_j1 r60 true r
end Go.Proofs.YtjookebbmfiidaaDoor.R
