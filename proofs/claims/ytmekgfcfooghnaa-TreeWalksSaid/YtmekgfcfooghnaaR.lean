/- What the functions answer, as plain relations, printed by my own tool off the program's translation. No condition. -/
import Derived.Test.YtmekgfcfooghnaaP0
set_option linter.unusedVariables false
namespace Go.Proofs.Ytmekgfcfooghnaa.R
open Go.Proofs.Ytmekgfcfooghnaa.B
structure api_Node where
  name : ByteArray
  named : Bool
  field : ByteArray
  from_ : Int
  to : Int
  kids : Int
  leaf : Int
  deriving Inhabited, DecidableEq
structure tree_forest where
  nodes : List api_Node
  parent : List Int
  end_ : List Int
  ok : Bool
  deriving Inhabited, DecidableEq
structure tree_stand where
  forest : tree_forest
  at_ : Int
  deriving Inhabited, DecidableEq
structure tree_Cursor where
  stand : tree_stand
  deriving Inhabited, DecidableEq
structure trellisref15_Tree where
  node : api_Node
  kids : List trellisref15_Tree
  at_ : Int
instance : Inhabited trellisref15_Tree := ⟨⟨default, [], default⟩⟩
structure trellisref15_Model where
  f : List trellisref15_Tree
  at_ : Int
  deriving Inhabited
def trellisref15_Beyond_b2 (x40 : Int) (x1 : List api_Node) (x191 : List Int) (o2 : Sum (List Int) (Sum ((List Int) × Int) Bool)) : Prop :=
  if (x191.length : Int) > 0 then
    (0 ≤ w64 ((x191.length : Int) - 1) ∧ w64 ((x191.length : Int) - 1) < (x191.length : Int)) ∧
    if ix x191 (w64 ((x191.length : Int) - 1)) ≤ 0 then
      (0 ≤ (0 : Int) ∧ (0 : Int) ≤ w64 ((x191.length : Int) - 1) ∧ w64 ((x191.length : Int) - 1) ≤ (x191.length : Int)) ∧
      ∃ x236 : List Int, (x236 = x191.take (w64 ((x191.length : Int) - 1) : Int).toNat) ∧
      o2 = .inl x236
    else
      ∃ x240 : List Int, (x240 = x191.set (w64 ((x191.length : Int) - 1) : Int).toNat (w64 ((ix x191 (w64 ((x191.length : Int) - 1))) - 1))) ∧
      (0 ≤ x40 ∧ x40 < (x1.length : Int)) ∧
      ∃ x251 : List Int, (x251 = x240 ++ ([(ix x1 x40).kids] : List Int)) ∧
      (x251.length * 8 ≤ 211106232532992) ∧
      if (x251.length : Int) > 65536 then
        o2 = .inr (.inr (true))
      else
        o2 = .inr (.inl (x251, w64 (x40 + 1)))
  else
    (0 ≤ x40 ∧ x40 < (x1.length : Int)) ∧
    ∃ x263 : List Int, (x263 = x191 ++ ([(ix x1 x40).kids] : List Int)) ∧
    (x263.length * 8 ≤ 211106232532992) ∧
    if (x263.length : Int) > 65536 then
      o2 = .inr (.inr (true))
    else
      o2 = .inr (.inl (x263, w64 (x40 + 1)))
def trellisref15_Beyond_b1 (x1 : List api_Node) (x35 : List Int) (x40 : Int) (o1 : Sum ((List Int) × Int) Bool) : Prop :=
  if x40 < (x1.length : Int) then
    Rounds (fun (s : (List Int)) o => trellisref15_Beyond_b2 x40 x1 s o) x35 o1
  else
    o1 = .inr (false)
def trellisref15_Beyond (x1 : List api_Node) (r : Bool) : Prop :=
  Rounds (fun (s : (List Int) × Int) o => trellisref15_Beyond_b1 x1 s.1 s.2 o) (([] : List Int), 0) r
def trellisref15_Twin (x1 : List api_Node) (r : List api_Node) : Prop :=
  ∃ x10 : List api_Node, (x10 = ([] : List api_Node) ++ x1) ∧
  (x10.length * 72 ≤ 211106232532992) ∧
  r = x10
def trellislaw15_roomy (x1 : List api_Node) (r : (List api_Node) × Nat) : Prop :=
  ∃ r9 : List api_Node, (trellisref15_Twin x1 r9) ∧
  ∃ x25 : List api_Node, (x25 = r9 ++ ([(⟨(⟨#[]⟩ : ByteArray), false, (⟨#[]⟩ : ByteArray), 0, 0, -71, 0⟩ : api_Node), (⟨(⟨#[]⟩ : ByteArray), false, (⟨#[]⟩ : ByteArray), 0, 0, -72, 0⟩ : api_Node)] : List api_Node)) ∧
  (x25.length * 72 ≤ 211106232532992) ∧
  (0 ≤ (0 : Int) ∧ (0 : Int) ≤ (x1.length : Int) ∧ (x1.length : Int) ≤ (x25.length : Int)) ∧
  r = (x25, ((x1.length : Int) : Int).toNat)
def tree_plant_b3 (x355 : Int) (x654 : List Int) (x766 : List Int) (x771 : List Int) (x776 : List Int) (o2 : Sum ((List Int) × (List Int) × (List Int)) (Sum ((List Int) × (List Int) × Int × (List Int) × (List Int)) tree_forest)) : Prop :=
  if (x766.length : Int) > 0 then
    (0 ≤ w64 ((x771.length : Int) - 1) ∧ w64 ((x771.length : Int) - 1) < (x771.length : Int)) ∧
    if ix x771 (w64 ((x771.length : Int) - 1)) = 0 then
      (0 ≤ w64 ((x766.length : Int) - 1) ∧ w64 ((x766.length : Int) - 1) < (x766.length : Int)) ∧
      (0 ≤ ix x766 (w64 ((x766.length : Int) - 1)) ∧ ix x766 (w64 ((x766.length : Int) - 1)) < (x776.length : Int)) ∧
      ∃ x811 : List Int, (x811 = x776.set (ix x766 (w64 ((x766.length : Int) - 1)) : Int).toNat (w64 (x355 + 1))) ∧
      (0 ≤ (0 : Int) ∧ (0 : Int) ≤ w64 ((x766.length : Int) - 1) ∧ w64 ((x766.length : Int) - 1) ≤ (x766.length : Int)) ∧
      ∃ x818 : List Int, (x818 = x766.take (w64 ((x766.length : Int) - 1) : Int).toNat) ∧
      (0 ≤ (0 : Int) ∧ (0 : Int) ≤ w64 ((x771.length : Int) - 1) ∧ w64 ((x771.length : Int) - 1) ≤ (x771.length : Int)) ∧
      ∃ x823 : List Int, (x823 = x771.take (w64 ((x771.length : Int) - 1) : Int).toNat) ∧
      o2 = .inl (x818, x823, x811)
    else
      o2 = .inr (.inl (x766, x771, w64 (x355 + 1), x654, x776))
  else
    o2 = .inr (.inl (x766, x771, w64 (x355 + 1), x654, x776))
def tree_plant_j2 (x1 : List api_Node) (x355 : Int) (x358 : List Int) (x345 : List Int) (x652 : List Int) (x654 : List Int) (o1 : Sum ((List Int) × (List Int) × Int × (List Int) × (List Int)) tree_forest) : Prop :=
  if (ix x1 x355).kids < 0 then
    o1 = .inr ((⟨x1, x654, x358, false⟩ : tree_forest))
  else
    ∃ x663 : List Int, (x663 = x345 ++ ([x355] : List Int)) ∧
    (x663.length * 8 ≤ 211106232532992) ∧
    ∃ x672 : List Int, (x672 = x652 ++ ([(ix x1 x355).kids] : List Int)) ∧
    (x672.length * 8 ≤ 211106232532992) ∧
    Rounds (fun (s : (List Int) × (List Int) × (List Int)) o => tree_plant_b3 x355 x654 s.1 s.2.1 s.2.2 o) (x663, x672, x358) o1
def tree_plant_b1 (x1 : List api_Node) (x345 : List Int) (x350 : List Int) (x355 : Int) (x356 : List Int) (x358 : List Int) (o1 : Sum ((List Int) × (List Int) × Int × (List Int) × (List Int)) tree_forest) : Prop :=
  if x355 < (x1.length : Int) then
    (0 ≤ x355 ∧ x355 < (x1.length : Int)) ∧
    (0 ≤ x355 ∧ x355 < (x356.length : Int)) ∧
    ∃ x636 : List Int, (x636 = x356.set (x355 : Int).toNat (-1)) ∧
    if (x345.length : Int) > 0 then
      (0 ≤ w64 ((x345.length : Int) - 1) ∧ w64 ((x345.length : Int) - 1) < (x345.length : Int)) ∧
      (0 ≤ x355 ∧ x355 < (x636.length : Int)) ∧
      ∃ x891 : List Int, (x891 = x636.set (x355 : Int).toNat (ix x345 (w64 ((x345.length : Int) - 1)))) ∧
      (0 ≤ w64 ((x350.length : Int) - 1) ∧ w64 ((x350.length : Int) - 1) < (x350.length : Int)) ∧
      ∃ x897 : List Int, (x897 = x350.set (w64 ((x350.length : Int) - 1) : Int).toNat (w64 ((ix x350 (w64 ((x350.length : Int) - 1))) - 1))) ∧
      tree_plant_j2 x1 x355 x358 x345 x897 x891 o1
    else
      tree_plant_j2 x1 x355 x358 x345 x350 x636 o1
  else
    o1 = .inr ((⟨x1, x356, x358, ((x345.length : Int) == 0)⟩ : tree_forest))
def tree_plant (x1 : List api_Node) (r : tree_forest) : Prop :=
  (0 ≤ (x1.length : Int) ∧ (x1.length : Int) * 8 ≤ 281474976710656) ∧
  ∃ x12 : List Int, (x12 = List.replicate ((x1.length : Int) : Int).toNat (0 : Int)) ∧
  ∃ x17 : List Int, (x17 = List.replicate ((x1.length : Int) : Int).toNat (0 : Int)) ∧
  Rounds (fun (s : (List Int) × (List Int) × Int × (List Int) × (List Int)) o => tree_plant_b1 x1 s.1 s.2.1 s.2.2.1 s.2.2.2.1 s.2.2.2.2 o) (([] : List Int), ([] : List Int), 0, x12, x17) r
def tree_forest_has (x1 : tree_forest) (x14 : Int) (r : Bool) : Prop :=
  if x1.ok = true then
    if x14 ≥ 0 then
      r = decide (x14 < (x1.nodes.length : Int))
    else
      r = false
  else
    r = false
def tree_stand_to (x1 : tree_stand) (x16 : Int) (x17 : Bool) (r : Bool × tree_stand) : Prop :=
  if x17 = true then
    r = (x17, (⟨x1.forest, x16⟩ : tree_stand))
  else
    r = (x17, x1)
def tree_Walk (x1 : List api_Node) (r : tree_Cursor) : Prop :=
  ∃ x10 : List api_Node, (x10 = ([] : List api_Node) ++ x1) ∧
  (x10.length * 72 ≤ 211106232532992) ∧
  ∃ r19 : tree_forest, (tree_plant x10 r19) ∧
  ∃ r74 : Bool, (tree_forest_has r19 0 r74) ∧
  ∃ r82 : Bool × tree_stand, (tree_stand_to (⟨r19, -1⟩ : tree_stand) 0 r74 r82) ∧
  r = (⟨r82.2⟩ : tree_Cursor)
def trellisref15_take_b2 (x1 : List api_Node) (x6 : Int) (rc_trellisref15_take : (List api_Node) → Int → (trellisref15_Tree × Int × Bool) → Prop) (x64 : Int) (x65 : Int) (x66 : List trellisref15_Tree) (o1 : Sum (Int × Int × (List trellisref15_Tree)) (trellisref15_Tree × Int × Bool)) : Prop :=
  if x65 < (ix x1 x6).kids then
    ∃ r121 : trellisref15_Tree × Int × Bool, (rc_trellisref15_take x1 x64 r121) ∧
    if r121.2.2 = true then
      ∃ x151 : List trellisref15_Tree, (x151 = x66 ++ ([r121.1] : List trellisref15_Tree)) ∧
      (x151.length * 104 ≤ 211106232532992) ∧
      o1 = .inl (r121.2.1, w64 (x65 + 1), x151)
    else
      o1 = .inr (((⟨(⟨(⟨#[]⟩ : ByteArray), false, (⟨#[]⟩ : ByteArray), 0, 0, 0, 0⟩ : api_Node), ([] : List trellisref15_Tree), 0⟩ : trellisref15_Tree), x6, false))
  else
    o1 = .inr (((⟨ix x1 x6, x66, x6⟩ : trellisref15_Tree), x64, true))
def trellisref15_take_j1 (x6 : Int) (x1 : List api_Node) (rc_trellisref15_take : (List api_Node) → Int → (trellisref15_Tree × Int × Bool) → Prop) (x15 : Bool) (r : trellisref15_Tree × Int × Bool) : Prop :=
  if x15 = true then
    r = ((⟨(⟨(⟨#[]⟩ : ByteArray), false, (⟨#[]⟩ : ByteArray), 0, 0, 0, 0⟩ : api_Node), ([] : List trellisref15_Tree), 0⟩ : trellisref15_Tree), x6, false)
  else
    (0 ≤ x6 ∧ x6 < (x1.length : Int)) ∧
    Rounds (fun (s : Int × Int × (List trellisref15_Tree)) o => trellisref15_take_b2 x1 x6 rc_trellisref15_take s.1 s.2.1 s.2.2 o) (w64 (x6 + 1), 0, ([] : List trellisref15_Tree)) r
def trellisref15_take_body (rc_trellisref15_take : (List api_Node) → Int → (trellisref15_Tree × Int × Bool) → Prop) (x1 : List api_Node) (x6 : Int) (r : trellisref15_Tree × Int × Bool) : Prop :=
  if x6 ≥ (x1.length : Int) then
    trellisref15_take_j1 x6 x1 rc_trellisref15_take true r
  else
    (0 ≤ x6 ∧ x6 < (x1.length : Int)) ∧
    if (ix x1 x6).kids < 0 then
      trellisref15_take_j1 x6 x1 rc_trellisref15_take true r
    else
      trellisref15_take_j1 x6 x1 rc_trellisref15_take (decide ((ix x1 x6).kids > (x1.length : Int))) r
def trellisref15_take_n : Nat → (List api_Node) → Int → (trellisref15_Tree × Int × Bool) → Prop
  | 0 => fun _ _ _ => False
  | n + 1 => trellisref15_take_body (trellisref15_take_n n)
def trellisref15_take (x1 : List api_Node) (x6 : Int) (r : trellisref15_Tree × Int × Bool) : Prop := ∃ n, trellisref15_take_n n x1 x6 r
def trellisref15_Forest_b1 (x1 : List api_Node) (x48 : List trellisref15_Tree) (x57 : Int) (o1 : Sum ((List trellisref15_Tree) × Int) ((List trellisref15_Tree) × Bool)) : Prop :=
  if x57 < (x1.length : Int) then
    ∃ r102 : trellisref15_Tree × Int × Bool, (trellisref15_take x1 x57 r102) ∧
    if r102.2.2 = true then
      ∃ x132 : List trellisref15_Tree, (x132 = x48 ++ ([r102.1] : List trellisref15_Tree)) ∧
      (x132.length * 104 ≤ 211106232532992) ∧
      o1 = .inl (x132, r102.2.1)
    else
      o1 = .inr ((([] : List trellisref15_Tree), false))
  else
    o1 = .inr ((x48, true))
def trellisref15_Forest (x1 : List api_Node) (r : (List trellisref15_Tree) × Bool) : Prop :=
  Rounds (fun (s : (List trellisref15_Tree) × Int) o => trellisref15_Forest_b1 x1 s.1 s.2 o) (([] : List trellisref15_Tree), 0) r
def trellisref15_Walk (x1 : List api_Node) (r : trellisref15_Model) : Prop :=
  ∃ r9 : (List trellisref15_Tree) × Bool, (trellisref15_Forest x1 r9) ∧
  if (r9.1.length : Int) > 0 then
    r = (⟨r9.1, 0⟩ : trellisref15_Model)
  else
    r = (⟨r9.1, -1⟩ : trellisref15_Model)
def tree_stand_Place (x1 : tree_stand) (r : Int × tree_stand) : Prop :=
  r = (x1.at_, x1)
def trellisref15_Model_Place (x1 : trellisref15_Model) (r : Int × trellisref15_Model) : Prop :=
  r = (x1.at_, x1)
def trellisref15_Same_b1 (x1 : List api_Node) (x6 : List api_Node) (x23 : Int) (o1 : Sum Int Bool) : Prop :=
  if x23 < (x1.length : Int) then
    (0 ≤ x23 ∧ x23 < (x1.length : Int)) ∧
    (0 ≤ x23 ∧ x23 < (x6.length : Int)) ∧
    if ix x1 x23 = ix x6 x23 then
      o1 = .inl (w64 (x23 + 1))
    else
      o1 = .inr (false)
  else
    o1 = .inr (true)
def trellisref15_Same (x1 : List api_Node) (x6 : List api_Node) (r : Bool) : Prop :=
  if (x1.length : Int) = (x6.length : Int) then
    Rounds (fun (s : Int) o => trellisref15_Same_b1 x1 x6 s o) 0 r
  else
    r = false
def trellislaw15_stays (x1 : List api_Node) (k6 : Nat) (x9 : List api_Node) (r : Bool) : Prop :=
  ∃ r17 : Bool, (trellisref15_Same (x1.take k6) x9 r17) ∧
  (0 ≤ w64 ((x9.length : Int) + 2) ∧ w64 ((x9.length : Int) + 2) ≤ (x1.length : Int)) ∧
  if r17 = true then
    (0 ≤ (x9.length : Int) ∧ (x9.length : Int) < ((x1.take ((w64 ((x9.length : Int) + 2) : Int).toNat)).length : Int)) ∧
    if (ix (x1.take ((w64 ((x9.length : Int) + 2) : Int).toNat)) (x9.length : Int)).kids = -71 then
      (0 ≤ w64 ((x9.length : Int) + 1) ∧ w64 ((x9.length : Int) + 1) < ((x1.take ((w64 ((x9.length : Int) + 2) : Int).toNat)).length : Int)) ∧
      r = (((ix (x1.take ((w64 ((x9.length : Int) + 2) : Int).toNat)) (w64 ((x9.length : Int) + 1))).kids) == (-72))
    else
      r = false
  else
    r = false
def tree_Cursor_Down (x1 : tree_Cursor) (r : Bool × tree_Cursor) : Prop :=
  ∃ r19 : Bool, (tree_forest_has x1.stand.forest x1.stand.at_ r19) ∧
  if r19 = true then
    (0 ≤ x1.stand.at_ ∧ x1.stand.at_ < (x1.stand.forest.nodes.length : Int)) ∧
    ∃ r30 : Bool × tree_stand, (tree_stand_to x1.stand (w64 (x1.stand.at_ + 1)) (decide ((ix x1.stand.forest.nodes x1.stand.at_).kids > 0)) r30) ∧
    r = (r30.1, (⟨r30.2⟩ : tree_Cursor))
  else
    ∃ r118 : Bool × tree_stand, (tree_stand_to x1.stand (w64 (x1.stand.at_ + 1)) false r118) ∧
    r = (r118.1, (⟨r118.2⟩ : tree_Cursor))
def trellisref15_find_b1 (x1 : List trellisref15_Tree) (x6 : Int) (x7 : Int) (rc_trellisref15_find : (List trellisref15_Tree) → Int → Int → (trellisref15_Tree × Int × Bool) → Prop) (x199 : Int) (o1 : Sum Int (trellisref15_Tree × Int × Bool)) : Prop :=
  if x199 < (x1.length : Int) then
    (0 ≤ x199 ∧ x199 < (x1.length : Int)) ∧
    if (ix x1 x199).at_ = x6 then
      o1 = .inr ((ix x1 x199, x7, true))
    else
      ∃ r422 : trellisref15_Tree × Int × Bool, (rc_trellisref15_find ((ix x1 x199).kids) x6 ((ix x1 x199).at_) r422) ∧
      if r422.2.2 = true then
        o1 = .inr ((r422.1, r422.2.1, true))
      else
        o1 = .inl (w64 (x199 + 1))
  else
    o1 = .inr (((⟨(⟨(⟨#[]⟩ : ByteArray), false, (⟨#[]⟩ : ByteArray), 0, 0, 0, 0⟩ : api_Node), ([] : List trellisref15_Tree), 0⟩ : trellisref15_Tree), -1, false))
def trellisref15_find_body (rc_trellisref15_find : (List trellisref15_Tree) → Int → Int → (trellisref15_Tree × Int × Bool) → Prop) (x1 : List trellisref15_Tree) (x6 : Int) (x7 : Int) (r : trellisref15_Tree × Int × Bool) : Prop :=
  Rounds (fun (s : Int) o => trellisref15_find_b1 x1 x6 x7 rc_trellisref15_find s o) 0 r
def trellisref15_find_n : Nat → (List trellisref15_Tree) → Int → Int → (trellisref15_Tree × Int × Bool) → Prop
  | 0 => fun _ _ _ _ => False
  | n + 1 => trellisref15_find_body (trellisref15_find_n n)
def trellisref15_find (x1 : List trellisref15_Tree) (x6 : Int) (x7 : Int) (r : trellisref15_Tree × Int × Bool) : Prop := ∃ n, trellisref15_find_n n x1 x6 x7 r
def trellisref15_Model_Down_j1 (x1 : trellisref15_Model) (r11 : trellisref15_Tree × Int × Bool) (x87 : Bool) (r : Bool × trellisref15_Model) : Prop :=
  if x87 = true then
    r = (false, x1)
  else
    (0 ≤ (0 : Int) ∧ (0 : Int) < (r11.1.kids.length : Int)) ∧
    r = (true, (⟨x1.f, (ix r11.1.kids 0).at_⟩ : trellisref15_Model))
def trellisref15_Model_Down (x1 : trellisref15_Model) (r : Bool × trellisref15_Model) : Prop :=
  ∃ r11 : trellisref15_Tree × Int × Bool, (trellisref15_find x1.f x1.at_ (-1) r11) ∧
  if r11.2.2 = true then
    trellisref15_Model_Down_j1 x1 r11 ((r11.1.kids.length : Int) == 0) r
  else
    trellisref15_Model_Down_j1 x1 r11 true r
def tree_Cursor_Next (x1 : tree_Cursor) (r : Bool × tree_Cursor) : Prop :=
  ∃ r19 : Bool, (tree_forest_has x1.stand.forest x1.stand.at_ r19) ∧
  if r19 = true then
    (0 ≤ x1.stand.at_ ∧ x1.stand.at_ < (x1.stand.forest.end_.length : Int)) ∧
    ∃ r56 : Bool, (tree_forest_has x1.stand.forest (ix x1.stand.forest.end_ x1.stand.at_) r56) ∧
    if r56 = true then
      (0 ≤ ix x1.stand.forest.end_ x1.stand.at_ ∧ ix x1.stand.forest.end_ x1.stand.at_ < (x1.stand.forest.parent.length : Int)) ∧
      (0 ≤ x1.stand.at_ ∧ x1.stand.at_ < (x1.stand.forest.parent.length : Int)) ∧
      ∃ r69 : Bool × tree_stand, (tree_stand_to x1.stand (ix x1.stand.forest.end_ x1.stand.at_) ((ix x1.stand.forest.parent (ix x1.stand.forest.end_ x1.stand.at_)) == (ix x1.stand.forest.parent x1.stand.at_)) r69) ∧
      r = (r69.1, (⟨r69.2⟩ : tree_Cursor))
    else
      ∃ r159 : Bool × tree_stand, (tree_stand_to x1.stand (ix x1.stand.forest.end_ x1.stand.at_) false r159) ∧
      r = (r159.1, (⟨r159.2⟩ : tree_Cursor))
  else
    r = (false, x1)
def trellisref15_Model_Next_b2 (x97 : List trellisref15_Tree) (x1 : trellisref15_Model) (x137 : Int) (o1 : Sum Int (Bool × trellisref15_Model)) : Prop :=
  if w64 (x137 + 1) < (x97.length : Int) then
    (0 ≤ x137 ∧ x137 < (x97.length : Int)) ∧
    if (ix x97 x137).at_ = x1.at_ then
      (0 ≤ w64 (x137 + 1) ∧ w64 (x137 + 1) < (x97.length : Int)) ∧
      o1 = .inr ((true, (⟨x1.f, (ix x97 (w64 (x137 + 1))).at_⟩ : trellisref15_Model)))
    else
      o1 = .inl (w64 (x137 + 1))
  else
    o1 = .inr ((false, x1))
def trellisref15_Model_Next_j1 (x1 : trellisref15_Model) (x97 : List trellisref15_Tree) (r : Bool × trellisref15_Model) : Prop :=
  Rounds (fun (s : Int) o => trellisref15_Model_Next_b2 x97 x1 s o) 0 r
def trellisref15_Model_Next (x1 : trellisref15_Model) (r : Bool × trellisref15_Model) : Prop :=
  ∃ r11 : trellisref15_Tree × Int × Bool, (trellisref15_find x1.f x1.at_ (-1) r11) ∧
  if r11.2.2 = true then
    if r11.2.1 ≥ 0 then
      ∃ r205 : trellisref15_Tree × Int × Bool, (trellisref15_find x1.f r11.2.1 (-1) r205) ∧
      trellisref15_Model_Next_j1 x1 r205.1.kids r
    else
      trellisref15_Model_Next_j1 x1 x1.f r
  else
    r = (false, x1)
def tree_Cursor_Up (x1 : tree_Cursor) (r : Bool × tree_Cursor) : Prop :=
  ∃ r19 : Bool, (tree_forest_has x1.stand.forest x1.stand.at_ r19) ∧
  if r19 = true then
    (0 ≤ x1.stand.at_ ∧ x1.stand.at_ < (x1.stand.forest.parent.length : Int)) ∧
    ∃ r31 : Bool × tree_stand, (tree_stand_to x1.stand (ix x1.stand.forest.parent x1.stand.at_) (decide (ix x1.stand.forest.parent x1.stand.at_ ≥ 0)) r31) ∧
    r = (r31.1, (⟨r31.2⟩ : tree_Cursor))
  else
    r = (false, x1)
def trellisref15_Model_Up_j1 (x1 : trellisref15_Model) (r11 : trellisref15_Tree × Int × Bool) (x80 : Bool) (r : Bool × trellisref15_Model) : Prop :=
  if x80 = true then
    r = (false, x1)
  else
    r = (true, (⟨x1.f, r11.2.1⟩ : trellisref15_Model))
def trellisref15_Model_Up (x1 : trellisref15_Model) (r : Bool × trellisref15_Model) : Prop :=
  ∃ r11 : trellisref15_Tree × Int × Bool, (trellisref15_find x1.f x1.at_ (-1) r11) ∧
  if r11.2.2 = true then
    trellisref15_Model_Up_j1 x1 r11 (decide (r11.2.1 < 0)) r
  else
    trellisref15_Model_Up_j1 x1 r11 true r
def trellislaw15_TreeWalks_j4 (x2720 : Int) (x3162 : Bool) (x3163 : List trellisref15_Tree) (x3170 : Int) (x3171 : List api_Node) (x3178 : List Int) (x3185 : List Int) (x3192 : Bool) (x3193 : Int) (o2 : Sum (Int × (List trellisref15_Tree) × Int × (List api_Node) × (List Int) × (List Int) × Bool × Int) (Sum ((List api_Node) × Int) Bool)) : Prop :=
  if x3162 = true then
    ∃ r3198 : Int × tree_stand, (tree_stand_Place (⟨(⟨x3171, x3178, x3185, x3192⟩ : tree_forest), x3193⟩ : tree_stand) r3198) ∧
    ∃ r3220 : Int × trellisref15_Model, (trellisref15_Model_Place (⟨x3163, x3170⟩ : trellisref15_Model) r3220) ∧
    if r3198.1 = r3220.1 then
      o2 = .inl (w64 (x2720 + 1), r3220.2.f, r3220.2.at_, r3198.2.forest.nodes, r3198.2.forest.parent, r3198.2.forest.end_, r3198.2.forest.ok, r3198.2.at_)
    else
      o2 = .inr (.inr (false))
  else
    o2 = .inr (.inr (false))
def trellislaw15_TreeWalks_b3 (x6 : List Int) (x2720 : Int) (x2721 : List trellisref15_Tree) (x2728 : Int) (x2729 : List api_Node) (x2736 : List Int) (x2743 : List Int) (x2750 : Bool) (x2751 : Int) (o2 : Sum (Int × (List trellisref15_Tree) × Int × (List api_Node) × (List Int) × (List Int) × Bool × Int) (Sum ((List api_Node) × Int) Bool)) : Prop :=
  if x2720 < (x6.length : Int) then
    (0 ≤ x2720 ∧ x2720 < (x6.length : Int)) ∧
    if ix x6 x2720 = 1 then
      ∃ r3235 : Bool × tree_Cursor, (tree_Cursor_Down (⟨(⟨(⟨x2729, x2736, x2743, x2750⟩ : tree_forest), x2751⟩ : tree_stand)⟩ : tree_Cursor) r3235) ∧
      ∃ r3257 : Bool × trellisref15_Model, (trellisref15_Model_Down (⟨x2721, x2728⟩ : trellisref15_Model) r3257) ∧
      trellislaw15_TreeWalks_j4 x2720 (r3235.1 == r3257.1) r3257.2.f r3257.2.at_ r3235.2.stand.forest.nodes r3235.2.stand.forest.parent r3235.2.stand.forest.end_ r3235.2.stand.forest.ok r3235.2.stand.at_ o2
    else
      if ix x6 x2720 = 2 then
        ∃ r3272 : Bool × tree_Cursor, (tree_Cursor_Next (⟨(⟨(⟨x2729, x2736, x2743, x2750⟩ : tree_forest), x2751⟩ : tree_stand)⟩ : tree_Cursor) r3272) ∧
        ∃ r3294 : Bool × trellisref15_Model, (trellisref15_Model_Next (⟨x2721, x2728⟩ : trellisref15_Model) r3294) ∧
        trellislaw15_TreeWalks_j4 x2720 (r3272.1 == r3294.1) r3294.2.f r3294.2.at_ r3272.2.stand.forest.nodes r3272.2.stand.forest.parent r3272.2.stand.forest.end_ r3272.2.stand.forest.ok r3272.2.stand.at_ o2
      else
        if ix x6 x2720 = 3 then
          ∃ r3309 : Bool × tree_Cursor, (tree_Cursor_Up (⟨(⟨(⟨x2729, x2736, x2743, x2750⟩ : tree_forest), x2751⟩ : tree_stand)⟩ : tree_Cursor) r3309) ∧
          ∃ r3331 : Bool × trellisref15_Model, (trellisref15_Model_Up (⟨x2721, x2728⟩ : trellisref15_Model) r3331) ∧
          trellislaw15_TreeWalks_j4 x2720 (r3309.1 == r3331.1) r3331.2.f r3331.2.at_ r3309.2.stand.forest.nodes r3309.2.stand.forest.parent r3309.2.stand.forest.end_ r3309.2.stand.forest.ok r3309.2.stand.at_ o2
        else
          trellislaw15_TreeWalks_j4 x2720 true x2721 x2728 x2729 x2736 x2743 x2750 x2751 o2
  else
    o2 = .inr (.inr (true))
def trellislaw15_TreeWalks_b2 (r23 : (List api_Node) × Nat) (x6 : List Int) (x128 : List trellisref15_Tree) (x135 : Int) (x136 : List api_Node) (x143 : List Int) (x150 : List Int) (x157 : Bool) (x158 : Int) (x1221 : List api_Node) (x1223 : Int) (o1 : Sum ((List api_Node) × Int) Bool) : Prop :=
  if x1223 < ((x1221.take r23.2).length : Int) then
    (0 ≤ x1223 ∧ x1223 < ((x1221.take r23.2).length : Int)) ∧
    ∃ x2286 : List api_Node, (x2286 = x1221.set (x1223 : Int).toNat (⟨(⟨#[]⟩ : ByteArray), false, (⟨#[]⟩ : ByteArray), 0, 0, -1, 0⟩ : api_Node)) ∧
    o1 = .inl (x2286, w64 (x1223 + 1))
  else
    ∃ r2292 : List api_Node, (trellisref15_Twin (x1221.take r23.2) r2292) ∧
    ∃ r2305 : trellisref15_Model, (trellisref15_Walk r2292 r2305) ∧
    ∃ r2324 : tree_Cursor, (tree_Walk (x1221.take r23.2) r2324) ∧
    ∃ r2387 : Int × tree_stand, (tree_stand_Place r2324.stand r2387) ∧
    ∃ r2412 : Int × trellisref15_Model, (trellisref15_Model_Place r2305 r2412) ∧
    if r2387.1 = r2412.1 then
      Rounds (fun (s : Int × (List trellisref15_Tree) × Int × (List api_Node) × (List Int) × (List Int) × Bool × Int) o => trellislaw15_TreeWalks_b3 x6 s.1 s.2.1 s.2.2.1 s.2.2.2.1 s.2.2.2.2.1 s.2.2.2.2.2.1 s.2.2.2.2.2.2.1 s.2.2.2.2.2.2.2 o) (0, x128, x135, x136, x143, x150, x157, x158) o1
    else
      o1 = .inr (false)
def trellislaw15_TreeWalks_j1 (r23 : (List api_Node) × Nat) (x6 : List Int) (x127 : Bool) (x128 : List trellisref15_Tree) (x135 : Int) (x136 : List api_Node) (x143 : List Int) (x150 : List Int) (x157 : Bool) (x158 : Int) (r : Bool) : Prop :=
  if x127 = true then
    r = false
  else
    Rounds (fun (s : (List api_Node) × Int) o => trellislaw15_TreeWalks_b2 r23 x6 x128 x135 x136 x143 x150 x157 x158 s.1 s.2 o) (r23.1, 0) r
def trellislaw15_TreeWalks (x1 : List api_Node) (x6 : List Int) (r : Bool) : Prop :=
  ∃ r14 : Bool, (trellisref15_Beyond x1 r14) ∧
  if r14 = true then
    r = true
  else
    ∃ r23 : (List api_Node) × Nat, (trellislaw15_roomy x1 r23) ∧
    ∃ r37 : tree_Cursor, (tree_Walk (r23.1.take r23.2) r37) ∧
    ∃ r61 : trellisref15_Model, (trellisref15_Walk x1 r61) ∧
    ∃ r3345 : Int × tree_stand, (tree_stand_Place r37.stand r3345) ∧
    ∃ r3370 : Int × trellisref15_Model, (trellisref15_Model_Place r61 r3370) ∧
    if r3345.1 = r3370.1 then
      ∃ r3385 : Bool, (trellislaw15_stays r23.1 r23.2 x1 r3385) ∧
      trellislaw15_TreeWalks_j1 r23 x6 (!r3385) r3370.2.f r3370.2.at_ r3345.2.forest.nodes r3345.2.forest.parent r3345.2.forest.end_ r3345.2.forest.ok r3345.2.at_ r
    else
      trellislaw15_TreeWalks_j1 r23 x6 true r3370.2.f r3370.2.at_ r3345.2.forest.nodes r3345.2.forest.parent r3345.2.forest.end_ r3345.2.forest.ok r3345.2.at_ r
end Go.Proofs.Ytmekgfcfooghnaa.R
