/- What the functions answer, as plain relations, printed by my own tool off the program's translation. No condition. -/
import Derived.Test.YtmekgfcfooghnaaP0
set_option linter.unusedVariables false
namespace Go.Proofs.Ytmekgfcfooghnaa.R
open Go.Proofs.Ytmekgfcfooghnaa.B
structure api_Node where
 name : ByteArray
 named : Bool
 field : ByteArray
 from_ : Int
 to : Int
 kids : Int
 leaf : Int
 deriving Inhabited, DecidableEq
structure tree_forest where
 nodes : List api_Node
 parent : List Int
 end_ : List Int
 ok : Bool
 deriving Inhabited, DecidableEq
structure tree_stand where
 forest : tree_forest
 at_ : Int
 deriving Inhabited, DecidableEq
structure tree_Cursor where
 stand : tree_stand
 deriving Inhabited, DecidableEq
structure trellisref15_Tree where
 node : api_Node
 kids : List trellisref15_Tree
 at_ : Int
instance : Inhabited trellisref15_Tree := ⟨⟨default, [], default⟩⟩
structure trellisref15_Model where
 f : List trellisref15_Tree
 at_ : Int
 deriving Inhabited
structure api_ModeDef where
 name : ByteArray
 open_ : Bool
 deriving Inhabited, DecidableEq
structure api_TermDef where
 name : ByteArray
 lit : Bool
 deriving Inhabited, DecidableEq
structure api_Sym where
 name : ByteArray
 kind : Int
 deriving Inhabited, DecidableEq
structure api_Ref where
 sym : Int
 field : ByteArray
 as : ByteArray
 deriving Inhabited, DecidableEq
structure api_Prod where
 lhs : Int
 rhs : List api_Ref
 deriving Inhabited, DecidableEq
structure api_Gram where
 terms : List api_TermDef
 syms : List api_Sym
 prods : List api_Prod
 deriving Inhabited, DecidableEq
structure api_ReNode where
 op : Int
 set_ : Int → Int
 a : Int
 b : Int
 deriving Inhabited
structure api_Test where
 kind : Int
 n : Int
 deriving Inhabited, DecidableEq
structure api_Act where
 kind : Int
 n : Int
 m : Int
 deriving Inhabited, DecidableEq
structure api_Rule where
 term : Int
 pat : Int
 re : List api_ReNode
 lit : ByteArray
 in_ : List Int
 tests : List api_Test
 acts : List api_Act
 deriving Inhabited
structure api_Action where
 kind : Int
 n : Int
 deriving Inhabited, DecidableEq
structure api_Table where
 actions : List (List api_Action)
 gotos : List (List Int)
 deriving Inhabited, DecidableEq
structure api_PaintDef where
 name : ByteArray
 class_ : ByteArray
 deriving Inhabited, DecidableEq
structure api_MarkDef where
 name : ByteArray
 field : ByteArray
 deriving Inhabited, DecidableEq
structure api_InjectDef where
 name : ByteArray
 lang : ByteArray
 deriving Inhabited, DecidableEq
structure api_Lang where
 name : ByteArray
 modes : List api_ModeDef
 gram : api_Gram
 rules : List api_Rule
 table : api_Table
 paints : List api_PaintDef
 folds : List ByteArray
 marks : List api_MarkDef
 injects : List api_InjectDef
 deriving Inhabited
structure strings_Builder where
 addr : Bool
 buf : List Int
 deriving Inhabited
structure trellislaw15_Op where
 n : Int
 pad : Int
 len : Int
 deriving Inhabited, DecidableEq
structure trellislaw15_Made where
 sym : Int
 t : List api_Node
 ends : Int
 deriving Inhabited, DecidableEq
def trellisref15_Beyond_b2 (x40 : Int) (x1 : List api_Node) (x207 : List Int) (o2 : Sum (List Int) (Sum ((List Int) × Int) Bool)) : Prop :=
 if (x207.length : Int) > 0 then
  (0 ≤ w64 ((x207.length : Int) - 1) ∧ w64 ((x207.length : Int) - 1) < (x207.length : Int)) ∧
  if ix x207 (w64 ((x207.length : Int) - 1)) ≤ 0 then
   (0 ≤ (0 : Int) ∧ (0 : Int) ≤ w64 ((x207.length : Int) - 1) ∧ w64 ((x207.length : Int) - 1) ≤ (x207.length : Int)) ∧
   ∃ x256 : List Int, (x256 = x207.take (w64 ((x207.length : Int) - 1) : Int).toNat) ∧
   o2 = .inl x256
  else
   ∃ x260 : List Int, (x260 = x207.set (w64 ((x207.length : Int) - 1) : Int).toNat (w64 ((ix x207 (w64 ((x207.length : Int) - 1))) - 1))) ∧
   (0 ≤ x40 ∧ x40 < (x1.length : Int)) ∧
   ∃ x275 : List Int, (x275 = x260 ++ ([(ix x1 x40).kids] : List Int)) ∧
   (x275.length * 8 ≤ 211106232532992) ∧
   if (x275.length : Int) > 65536 then
    o2 = .inr (.inr (true))
   else
    o2 = .inr (.inl (x275, w64 (x40 + 1)))
 else
  (0 ≤ x40 ∧ x40 < (x1.length : Int)) ∧
  ∃ x287 : List Int, (x287 = x207 ++ ([(ix x1 x40).kids] : List Int)) ∧
  (x287.length * 8 ≤ 211106232532992) ∧
  if (x287.length : Int) > 65536 then
   o2 = .inr (.inr (true))
  else
   o2 = .inr (.inl (x287, w64 (x40 + 1)))
def trellisref15_Beyond_b1 (x1 : List api_Node) (x35 : List Int) (x40 : Int) (o1 : Sum ((List Int) × Int) Bool) : Prop :=
 if x40 < (x1.length : Int) then
  Rounds (fun (s : (List Int)) o => trellisref15_Beyond_b2 x40 x1 s o) x35 o1
 else
  o1 = .inr (false)
def trellisref15_Beyond (x1 : List api_Node) (r : Bool) : Prop :=
 Rounds (fun (s : (List Int) × Int) o => trellisref15_Beyond_b1 x1 s.1 s.2 o) (([] : List Int), 0) r
def trellisref15_Twin (x1 : List api_Node) (r : List api_Node) : Prop :=
 ∃ x10 : List api_Node, (x10 = ([] : List api_Node) ++ x1) ∧
 (x10.length * 72 ≤ 211106232532992) ∧
 r = x10
def trellislaw15_roomy (x1 : List api_Node) (r : (List api_Node) × Nat) : Prop :=
 ∃ r9 : List api_Node, (trellisref15_Twin x1 r9) ∧
 ∃ x25 : List api_Node, (x25 = r9 ++ ([(⟨(⟨#[]⟩ : ByteArray), false, (⟨#[]⟩ : ByteArray), 0, 0, -71, 0⟩ : api_Node), (⟨(⟨#[]⟩ : ByteArray), false, (⟨#[]⟩ : ByteArray), 0, 0, -72, 0⟩ : api_Node)] : List api_Node)) ∧
 (x25.length * 72 ≤ 211106232532992) ∧
 (0 ≤ (0 : Int) ∧ (0 : Int) ≤ (x1.length : Int) ∧ (x1.length : Int) ≤ (x25.length : Int)) ∧
 r = (x25, ((x1.length : Int) : Int).toNat)
def tree_plant_b3 (x355 : Int) (x654 : List Int) (x766 : List Int) (x771 : List Int) (x776 : List Int) (o2 : Sum ((List Int) × (List Int) × (List Int)) (Sum ((List Int) × (List Int) × Int × (List Int) × (List Int)) tree_forest)) : Prop :=
 if (x766.length : Int) > 0 then
  (0 ≤ w64 ((x771.length : Int) - 1) ∧ w64 ((x771.length : Int) - 1) < (x771.length : Int)) ∧
  if ix x771 (w64 ((x771.length : Int) - 1)) = 0 then
   (0 ≤ w64 ((x766.length : Int) - 1) ∧ w64 ((x766.length : Int) - 1) < (x766.length : Int)) ∧
   (0 ≤ ix x766 (w64 ((x766.length : Int) - 1)) ∧ ix x766 (w64 ((x766.length : Int) - 1)) < (x776.length : Int)) ∧
   ∃ x811 : List Int, (x811 = x776.set (ix x766 (w64 ((x766.length : Int) - 1)) : Int).toNat (w64 (x355 + 1))) ∧
   (0 ≤ (0 : Int) ∧ (0 : Int) ≤ w64 ((x766.length : Int) - 1) ∧ w64 ((x766.length : Int) - 1) ≤ (x766.length : Int)) ∧
   ∃ x818 : List Int, (x818 = x766.take (w64 ((x766.length : Int) - 1) : Int).toNat) ∧
   (0 ≤ (0 : Int) ∧ (0 : Int) ≤ w64 ((x771.length : Int) - 1) ∧ w64 ((x771.length : Int) - 1) ≤ (x771.length : Int)) ∧
   ∃ x823 : List Int, (x823 = x771.take (w64 ((x771.length : Int) - 1) : Int).toNat) ∧
   o2 = .inl (x818, x823, x811)
  else
   o2 = .inr (.inl (x766, x771, w64 (x355 + 1), x654, x776))
 else
  o2 = .inr (.inl (x766, x771, w64 (x355 + 1), x654, x776))
def tree_plant_j2 (x1 : List api_Node) (x355 : Int) (x358 : List Int) (x345 : List Int) (x652 : List Int) (x654 : List Int) (o1 : Sum ((List Int) × (List Int) × Int × (List Int) × (List Int)) tree_forest) : Prop :=
 if (ix x1 x355).kids < 0 then
  o1 = .inr ((⟨x1, x654, x358, false⟩ : tree_forest))
 else
  ∃ x663 : List Int, (x663 = x345 ++ ([x355] : List Int)) ∧
  (x663.length * 8 ≤ 211106232532992) ∧
  ∃ x672 : List Int, (x672 = x652 ++ ([(ix x1 x355).kids] : List Int)) ∧
  (x672.length * 8 ≤ 211106232532992) ∧
  Rounds (fun (s : (List Int) × (List Int) × (List Int)) o => tree_plant_b3 x355 x654 s.1 s.2.1 s.2.2 o) (x663, x672, x358) o1
def tree_plant_b1 (x1 : List api_Node) (x345 : List Int) (x350 : List Int) (x355 : Int) (x356 : List Int) (x358 : List Int) (o1 : Sum ((List Int) × (List Int) × Int × (List Int) × (List Int)) tree_forest) : Prop :=
 if x355 < (x1.length : Int) then
  (0 ≤ x355 ∧ x355 < (x1.length : Int)) ∧
  (0 ≤ x355 ∧ x355 < (x356.length : Int)) ∧
  ∃ x636 : List Int, (x636 = x356.set (x355 : Int).toNat (-1)) ∧
  if (x345.length : Int) > 0 then
   (0 ≤ w64 ((x345.length : Int) - 1) ∧ w64 ((x345.length : Int) - 1) < (x345.length : Int)) ∧
   (0 ≤ x355 ∧ x355 < (x636.length : Int)) ∧
   ∃ x891 : List Int, (x891 = x636.set (x355 : Int).toNat (ix x345 (w64 ((x345.length : Int) - 1)))) ∧
   (0 ≤ w64 ((x350.length : Int) - 1) ∧ w64 ((x350.length : Int) - 1) < (x350.length : Int)) ∧
   ∃ x897 : List Int, (x897 = x350.set (w64 ((x350.length : Int) - 1) : Int).toNat (w64 ((ix x350 (w64 ((x350.length : Int) - 1))) - 1))) ∧
   tree_plant_j2 x1 x355 x358 x345 x897 x891 o1
  else
   tree_plant_j2 x1 x355 x358 x345 x350 x636 o1
 else
  o1 = .inr ((⟨x1, x356, x358, ((x345.length : Int) == 0)⟩ : tree_forest))
def tree_plant (x1 : List api_Node) (r : tree_forest) : Prop :=
 (0 ≤ (x1.length : Int) ∧ (x1.length : Int) * 8 ≤ 281474976710656) ∧
 ∃ x12 : List Int, (x12 = List.replicate ((x1.length : Int) : Int).toNat (0 : Int)) ∧
 ∃ x17 : List Int, (x17 = List.replicate ((x1.length : Int) : Int).toNat (0 : Int)) ∧
 Rounds (fun (s : (List Int) × (List Int) × Int × (List Int) × (List Int)) o => tree_plant_b1 x1 s.1 s.2.1 s.2.2.1 s.2.2.2.1 s.2.2.2.2 o) (([] : List Int), ([] : List Int), 0, x12, x17) r
def tree_forest_has (x1 : tree_forest) (x14 : Int) (r : Bool) : Prop :=
 if x1.ok = true then
  if x14 ≥ 0 then
   r = decide (x14 < (x1.nodes.length : Int))
  else
   r = false
 else
  r = false
def tree_stand_to (x1 : tree_stand) (x16 : Int) (x17 : Bool) (r : Bool × tree_stand) : Prop :=
 if x17 = true then
  r = (x17, (⟨x1.forest, x16⟩ : tree_stand))
 else
  r = (x17, x1)
def tree_Walk (x1 : List api_Node) (r : tree_Cursor) : Prop :=
 ∃ x10 : List api_Node, (x10 = ([] : List api_Node) ++ x1) ∧
 (x10.length * 72 ≤ 211106232532992) ∧
 ∃ r19 : tree_forest, (tree_plant x10 r19) ∧
 ∃ r74 : Bool, (tree_forest_has r19 0 r74) ∧
 ∃ r82 : Bool × tree_stand, (tree_stand_to (⟨r19, -1⟩ : tree_stand) 0 r74 r82) ∧
 r = (⟨r82.2⟩ : tree_Cursor)
def trellisref15_take_b2 (x1 : List api_Node) (x6 : Int) (rc_trellisref15_take : (List api_Node) → Int → (trellisref15_Tree × Int × Bool) → Prop) (x64 : Int) (x65 : Int) (x66 : List trellisref15_Tree) (o1 : Sum (Int × Int × (List trellisref15_Tree)) (trellisref15_Tree × Int × Bool)) : Prop :=
 if x65 < (ix x1 x6).kids then
  ∃ r121 : trellisref15_Tree × Int × Bool, (rc_trellisref15_take x1 x64 r121) ∧
  if r121.2.2 = true then
   ∃ x151 : List trellisref15_Tree, (x151 = x66 ++ ([r121.1] : List trellisref15_Tree)) ∧
   (x151.length * 104 ≤ 211106232532992) ∧
   o1 = .inl (r121.2.1, w64 (x65 + 1), x151)
  else
   o1 = .inr (((⟨(⟨(⟨#[]⟩ : ByteArray), false, (⟨#[]⟩ : ByteArray), 0, 0, 0, 0⟩ : api_Node), ([] : List trellisref15_Tree), 0⟩ : trellisref15_Tree), x6, false))
 else
  o1 = .inr (((⟨ix x1 x6, x66, x6⟩ : trellisref15_Tree), x64, true))
def trellisref15_take_j1 (x6 : Int) (x1 : List api_Node) (rc_trellisref15_take : (List api_Node) → Int → (trellisref15_Tree × Int × Bool) → Prop) (x15 : Bool) (r : trellisref15_Tree × Int × Bool) : Prop :=
 if x15 = true then
  r = ((⟨(⟨(⟨#[]⟩ : ByteArray), false, (⟨#[]⟩ : ByteArray), 0, 0, 0, 0⟩ : api_Node), ([] : List trellisref15_Tree), 0⟩ : trellisref15_Tree), x6, false)
 else
  (0 ≤ x6 ∧ x6 < (x1.length : Int)) ∧
  Rounds (fun (s : Int × Int × (List trellisref15_Tree)) o => trellisref15_take_b2 x1 x6 rc_trellisref15_take s.1 s.2.1 s.2.2 o) (w64 (x6 + 1), 0, ([] : List trellisref15_Tree)) r
def trellisref15_take_body (rc_trellisref15_take : (List api_Node) → Int → (trellisref15_Tree × Int × Bool) → Prop) (x1 : List api_Node) (x6 : Int) (r : trellisref15_Tree × Int × Bool) : Prop :=
 if x6 ≥ (x1.length : Int) then
  trellisref15_take_j1 x6 x1 rc_trellisref15_take true r
 else
  (0 ≤ x6 ∧ x6 < (x1.length : Int)) ∧
  if (ix x1 x6).kids < 0 then
   trellisref15_take_j1 x6 x1 rc_trellisref15_take true r
  else
   trellisref15_take_j1 x6 x1 rc_trellisref15_take (decide ((ix x1 x6).kids > (x1.length : Int))) r
def trellisref15_take_n : Nat → (List api_Node) → Int → (trellisref15_Tree × Int × Bool) → Prop
 | 0 => fun _ _ _ => False
 | n + 1 => trellisref15_take_body (trellisref15_take_n n)
def trellisref15_take (x1 : List api_Node) (x6 : Int) (r : trellisref15_Tree × Int × Bool) : Prop := ∃ n, trellisref15_take_n n x1 x6 r
def trellisref15_Forest_b1 (x1 : List api_Node) (x48 : List trellisref15_Tree) (x57 : Int) (o1 : Sum ((List trellisref15_Tree) × Int) ((List trellisref15_Tree) × Bool)) : Prop :=
 if x57 < (x1.length : Int) then
  ∃ r102 : trellisref15_Tree × Int × Bool, (trellisref15_take x1 x57 r102) ∧
  if r102.2.2 = true then
   ∃ x132 : List trellisref15_Tree, (x132 = x48 ++ ([r102.1] : List trellisref15_Tree)) ∧
   (x132.length * 104 ≤ 211106232532992) ∧
   o1 = .inl (x132, r102.2.1)
  else
   o1 = .inr ((([] : List trellisref15_Tree), false))
 else
  o1 = .inr ((x48, true))
def trellisref15_Forest (x1 : List api_Node) (r : (List trellisref15_Tree) × Bool) : Prop :=
 Rounds (fun (s : (List trellisref15_Tree) × Int) o => trellisref15_Forest_b1 x1 s.1 s.2 o) (([] : List trellisref15_Tree), 0) r
def trellisref15_Walk (x1 : List api_Node) (r : trellisref15_Model) : Prop :=
 ∃ r9 : (List trellisref15_Tree) × Bool, (trellisref15_Forest x1 r9) ∧
 if (r9.1.length : Int) > 0 then
  r = (⟨r9.1, 0⟩ : trellisref15_Model)
 else
  r = (⟨r9.1, -1⟩ : trellisref15_Model)
def tree_stand_Place (x1 : tree_stand) (r : Int × tree_stand) : Prop :=
 r = (x1.at_, x1)
def trellisref15_Model_Place (x1 : trellisref15_Model) (r : Int × trellisref15_Model) : Prop :=
 r = (x1.at_, x1)
def trellisref15_Same_b1 (x1 : List api_Node) (x6 : List api_Node) (x23 : Int) (o1 : Sum Int Bool) : Prop :=
 if x23 < (x1.length : Int) then
  (0 ≤ x23 ∧ x23 < (x1.length : Int)) ∧
  (0 ≤ x23 ∧ x23 < (x6.length : Int)) ∧
  if ix x1 x23 = ix x6 x23 then
   o1 = .inl (w64 (x23 + 1))
  else
   o1 = .inr (false)
 else
  o1 = .inr (true)
def trellisref15_Same (x1 : List api_Node) (x6 : List api_Node) (r : Bool) : Prop :=
 if (x1.length : Int) = (x6.length : Int) then
  Rounds (fun (s : Int) o => trellisref15_Same_b1 x1 x6 s o) 0 r
 else
  r = false
def trellislaw15_stays (x1 : List api_Node) (k6 : Nat) (x9 : List api_Node) (r : Bool) : Prop :=
 ∃ r17 : Bool, (trellisref15_Same (x1.take k6) x9 r17) ∧
 (0 ≤ w64 ((x9.length : Int) + 2) ∧ w64 ((x9.length : Int) + 2) ≤ (x1.length : Int)) ∧
 if r17 = true then
  (0 ≤ (x9.length : Int) ∧ (x9.length : Int) < ((x1.take ((w64 ((x9.length : Int) + 2) : Int).toNat)).length : Int)) ∧
  if (ix (x1.take ((w64 ((x9.length : Int) + 2) : Int).toNat)) (x9.length : Int)).kids = -71 then
   (0 ≤ w64 ((x9.length : Int) + 1) ∧ w64 ((x9.length : Int) + 1) < ((x1.take ((w64 ((x9.length : Int) + 2) : Int).toNat)).length : Int)) ∧
   r = (((ix (x1.take ((w64 ((x9.length : Int) + 2) : Int).toNat)) (w64 ((x9.length : Int) + 1))).kids) == (-72))
  else
   r = false
 else
  r = false
def tree_Cursor_Down (x1 : tree_Cursor) (r : Bool × tree_Cursor) : Prop :=
 ∃ r19 : Bool, (tree_forest_has x1.stand.forest x1.stand.at_ r19) ∧
 if r19 = true then
  (0 ≤ x1.stand.at_ ∧ x1.stand.at_ < (x1.stand.forest.nodes.length : Int)) ∧
  ∃ r30 : Bool × tree_stand, (tree_stand_to x1.stand (w64 (x1.stand.at_ + 1)) (decide ((ix x1.stand.forest.nodes x1.stand.at_).kids > 0)) r30) ∧
  r = (r30.1, (⟨r30.2⟩ : tree_Cursor))
 else
  ∃ r118 : Bool × tree_stand, (tree_stand_to x1.stand (w64 (x1.stand.at_ + 1)) false r118) ∧
  r = (r118.1, (⟨r118.2⟩ : tree_Cursor))
def trellisref15_find_b1 (x1 : List trellisref15_Tree) (x6 : Int) (x7 : Int) (rc_trellisref15_find : (List trellisref15_Tree) → Int → Int → (trellisref15_Tree × Int × Bool) → Prop) (x199 : Int) (o1 : Sum Int (trellisref15_Tree × Int × Bool)) : Prop :=
 if x199 < (x1.length : Int) then
  (0 ≤ x199 ∧ x199 < (x1.length : Int)) ∧
  if (ix x1 x199).at_ = x6 then
   o1 = .inr ((ix x1 x199, x7, true))
  else
   ∃ r422 : trellisref15_Tree × Int × Bool, (rc_trellisref15_find ((ix x1 x199).kids) x6 ((ix x1 x199).at_) r422) ∧
   if r422.2.2 = true then
    o1 = .inr ((r422.1, r422.2.1, true))
   else
    o1 = .inl (w64 (x199 + 1))
 else
  o1 = .inr (((⟨(⟨(⟨#[]⟩ : ByteArray), false, (⟨#[]⟩ : ByteArray), 0, 0, 0, 0⟩ : api_Node), ([] : List trellisref15_Tree), 0⟩ : trellisref15_Tree), -1, false))
def trellisref15_find_body (rc_trellisref15_find : (List trellisref15_Tree) → Int → Int → (trellisref15_Tree × Int × Bool) → Prop) (x1 : List trellisref15_Tree) (x6 : Int) (x7 : Int) (r : trellisref15_Tree × Int × Bool) : Prop :=
 Rounds (fun (s : Int) o => trellisref15_find_b1 x1 x6 x7 rc_trellisref15_find s o) 0 r
def trellisref15_find_n : Nat → (List trellisref15_Tree) → Int → Int → (trellisref15_Tree × Int × Bool) → Prop
 | 0 => fun _ _ _ _ => False
 | n + 1 => trellisref15_find_body (trellisref15_find_n n)
def trellisref15_find (x1 : List trellisref15_Tree) (x6 : Int) (x7 : Int) (r : trellisref15_Tree × Int × Bool) : Prop := ∃ n, trellisref15_find_n n x1 x6 x7 r
def trellisref15_Model_Down_j1 (x1 : trellisref15_Model) (r11 : trellisref15_Tree × Int × Bool) (x87 : Bool) (r : Bool × trellisref15_Model) : Prop :=
 if x87 = true then
  r = (false, x1)
 else
  (0 ≤ (0 : Int) ∧ (0 : Int) < (r11.1.kids.length : Int)) ∧
  r = (true, (⟨x1.f, (ix r11.1.kids 0).at_⟩ : trellisref15_Model))
def trellisref15_Model_Down (x1 : trellisref15_Model) (r : Bool × trellisref15_Model) : Prop :=
 ∃ r11 : trellisref15_Tree × Int × Bool, (trellisref15_find x1.f x1.at_ (-1) r11) ∧
 if r11.2.2 = true then
  trellisref15_Model_Down_j1 x1 r11 ((r11.1.kids.length : Int) == 0) r
 else
  trellisref15_Model_Down_j1 x1 r11 true r
def tree_Cursor_Next (x1 : tree_Cursor) (r : Bool × tree_Cursor) : Prop :=
 ∃ r19 : Bool, (tree_forest_has x1.stand.forest x1.stand.at_ r19) ∧
 if r19 = true then
  (0 ≤ x1.stand.at_ ∧ x1.stand.at_ < (x1.stand.forest.end_.length : Int)) ∧
  ∃ r56 : Bool, (tree_forest_has x1.stand.forest (ix x1.stand.forest.end_ x1.stand.at_) r56) ∧
  if r56 = true then
   (0 ≤ ix x1.stand.forest.end_ x1.stand.at_ ∧ ix x1.stand.forest.end_ x1.stand.at_ < (x1.stand.forest.parent.length : Int)) ∧
   (0 ≤ x1.stand.at_ ∧ x1.stand.at_ < (x1.stand.forest.parent.length : Int)) ∧
   ∃ r69 : Bool × tree_stand, (tree_stand_to x1.stand (ix x1.stand.forest.end_ x1.stand.at_) ((ix x1.stand.forest.parent (ix x1.stand.forest.end_ x1.stand.at_)) == (ix x1.stand.forest.parent x1.stand.at_)) r69) ∧
   r = (r69.1, (⟨r69.2⟩ : tree_Cursor))
  else
   ∃ r159 : Bool × tree_stand, (tree_stand_to x1.stand (ix x1.stand.forest.end_ x1.stand.at_) false r159) ∧
   r = (r159.1, (⟨r159.2⟩ : tree_Cursor))
 else
  r = (false, x1)
def trellisref15_Model_Next_b2 (x97 : List trellisref15_Tree) (x1 : trellisref15_Model) (x137 : Int) (o1 : Sum Int (Bool × trellisref15_Model)) : Prop :=
 if w64 (x137 + 1) < (x97.length : Int) then
  (0 ≤ x137 ∧ x137 < (x97.length : Int)) ∧
  if (ix x97 x137).at_ = x1.at_ then
   (0 ≤ w64 (x137 + 1) ∧ w64 (x137 + 1) < (x97.length : Int)) ∧
   o1 = .inr ((true, (⟨x1.f, (ix x97 (w64 (x137 + 1))).at_⟩ : trellisref15_Model)))
  else
   o1 = .inl (w64 (x137 + 1))
 else
  o1 = .inr ((false, x1))
def trellisref15_Model_Next_j1 (x1 : trellisref15_Model) (x97 : List trellisref15_Tree) (r : Bool × trellisref15_Model) : Prop :=
 Rounds (fun (s : Int) o => trellisref15_Model_Next_b2 x97 x1 s o) 0 r
def trellisref15_Model_Next (x1 : trellisref15_Model) (r : Bool × trellisref15_Model) : Prop :=
 ∃ r11 : trellisref15_Tree × Int × Bool, (trellisref15_find x1.f x1.at_ (-1) r11) ∧
 if r11.2.2 = true then
  if r11.2.1 ≥ 0 then
   ∃ r205 : trellisref15_Tree × Int × Bool, (trellisref15_find x1.f r11.2.1 (-1) r205) ∧
   trellisref15_Model_Next_j1 x1 r205.1.kids r
  else
   trellisref15_Model_Next_j1 x1 x1.f r
 else
  r = (false, x1)
def tree_Cursor_Up (x1 : tree_Cursor) (r : Bool × tree_Cursor) : Prop :=
 ∃ r19 : Bool, (tree_forest_has x1.stand.forest x1.stand.at_ r19) ∧
 if r19 = true then
  (0 ≤ x1.stand.at_ ∧ x1.stand.at_ < (x1.stand.forest.parent.length : Int)) ∧
  ∃ r31 : Bool × tree_stand, (tree_stand_to x1.stand (ix x1.stand.forest.parent x1.stand.at_) (decide (ix x1.stand.forest.parent x1.stand.at_ ≥ 0)) r31) ∧
  r = (r31.1, (⟨r31.2⟩ : tree_Cursor))
 else
  r = (false, x1)
def trellisref15_Model_Up_j1 (x1 : trellisref15_Model) (r11 : trellisref15_Tree × Int × Bool) (x80 : Bool) (r : Bool × trellisref15_Model) : Prop :=
 if x80 = true then
  r = (false, x1)
 else
  r = (true, (⟨x1.f, r11.2.1⟩ : trellisref15_Model))
def trellisref15_Model_Up (x1 : trellisref15_Model) (r : Bool × trellisref15_Model) : Prop :=
 ∃ r11 : trellisref15_Tree × Int × Bool, (trellisref15_find x1.f x1.at_ (-1) r11) ∧
 if r11.2.2 = true then
  trellisref15_Model_Up_j1 x1 r11 (decide (r11.2.1 < 0)) r
 else
  trellisref15_Model_Up_j1 x1 r11 true r
def trellislaw15_TreeWalks_j4 (x2720 : Int) (x3162 : Bool) (x3163 : List trellisref15_Tree) (x3170 : Int) (x3171 : List api_Node) (x3178 : List Int) (x3185 : List Int) (x3192 : Bool) (x3193 : Int) (o2 : Sum (Int × (List trellisref15_Tree) × Int × (List api_Node) × (List Int) × (List Int) × Bool × Int) (Sum ((List api_Node) × Int) Bool)) : Prop :=
 if x3162 = true then
  ∃ r3198 : Int × tree_stand, (tree_stand_Place (⟨(⟨x3171, x3178, x3185, x3192⟩ : tree_forest), x3193⟩ : tree_stand) r3198) ∧
  ∃ r3220 : Int × trellisref15_Model, (trellisref15_Model_Place (⟨x3163, x3170⟩ : trellisref15_Model) r3220) ∧
  if r3198.1 = r3220.1 then
   o2 = .inl (w64 (x2720 + 1), r3220.2.f, r3220.2.at_, r3198.2.forest.nodes, r3198.2.forest.parent, r3198.2.forest.end_, r3198.2.forest.ok, r3198.2.at_)
  else
   o2 = .inr (.inr (false))
 else
  o2 = .inr (.inr (false))
def trellislaw15_TreeWalks_b3 (x6 : List Int) (x2720 : Int) (x2721 : List trellisref15_Tree) (x2728 : Int) (x2729 : List api_Node) (x2736 : List Int) (x2743 : List Int) (x2750 : Bool) (x2751 : Int) (o2 : Sum (Int × (List trellisref15_Tree) × Int × (List api_Node) × (List Int) × (List Int) × Bool × Int) (Sum ((List api_Node) × Int) Bool)) : Prop :=
 if x2720 < (x6.length : Int) then
  (0 ≤ x2720 ∧ x2720 < (x6.length : Int)) ∧
  if ix x6 x2720 = 1 then
   ∃ r3235 : Bool × tree_Cursor, (tree_Cursor_Down (⟨(⟨(⟨x2729, x2736, x2743, x2750⟩ : tree_forest), x2751⟩ : tree_stand)⟩ : tree_Cursor) r3235) ∧
   ∃ r3257 : Bool × trellisref15_Model, (trellisref15_Model_Down (⟨x2721, x2728⟩ : trellisref15_Model) r3257) ∧
   trellislaw15_TreeWalks_j4 x2720 (r3235.1 == r3257.1) r3257.2.f r3257.2.at_ r3235.2.stand.forest.nodes r3235.2.stand.forest.parent r3235.2.stand.forest.end_ r3235.2.stand.forest.ok r3235.2.stand.at_ o2
  else
   if ix x6 x2720 = 2 then
    ∃ r3272 : Bool × tree_Cursor, (tree_Cursor_Next (⟨(⟨(⟨x2729, x2736, x2743, x2750⟩ : tree_forest), x2751⟩ : tree_stand)⟩ : tree_Cursor) r3272) ∧
    ∃ r3294 : Bool × trellisref15_Model, (trellisref15_Model_Next (⟨x2721, x2728⟩ : trellisref15_Model) r3294) ∧
    trellislaw15_TreeWalks_j4 x2720 (r3272.1 == r3294.1) r3294.2.f r3294.2.at_ r3272.2.stand.forest.nodes r3272.2.stand.forest.parent r3272.2.stand.forest.end_ r3272.2.stand.forest.ok r3272.2.stand.at_ o2
   else
    if ix x6 x2720 = 3 then
     ∃ r3309 : Bool × tree_Cursor, (tree_Cursor_Up (⟨(⟨(⟨x2729, x2736, x2743, x2750⟩ : tree_forest), x2751⟩ : tree_stand)⟩ : tree_Cursor) r3309) ∧
     ∃ r3331 : Bool × trellisref15_Model, (trellisref15_Model_Up (⟨x2721, x2728⟩ : trellisref15_Model) r3331) ∧
     trellislaw15_TreeWalks_j4 x2720 (r3309.1 == r3331.1) r3331.2.f r3331.2.at_ r3309.2.stand.forest.nodes r3309.2.stand.forest.parent r3309.2.stand.forest.end_ r3309.2.stand.forest.ok r3309.2.stand.at_ o2
    else
     trellislaw15_TreeWalks_j4 x2720 true x2721 x2728 x2729 x2736 x2743 x2750 x2751 o2
 else
  o2 = .inr (.inr (true))
def trellislaw15_TreeWalks_b2 (r23 : (List api_Node) × Nat) (x6 : List Int) (x128 : List trellisref15_Tree) (x135 : Int) (x136 : List api_Node) (x143 : List Int) (x150 : List Int) (x157 : Bool) (x158 : Int) (x1221 : List api_Node) (x1223 : Int) (o1 : Sum ((List api_Node) × Int) Bool) : Prop :=
 if x1223 < ((x1221.take r23.2).length : Int) then
  (0 ≤ x1223 ∧ x1223 < ((x1221.take r23.2).length : Int)) ∧
  ∃ x2286 : List api_Node, (x2286 = x1221.set (x1223 : Int).toNat (⟨(⟨#[]⟩ : ByteArray), false, (⟨#[]⟩ : ByteArray), 0, 0, -1, 0⟩ : api_Node)) ∧
  o1 = .inl (x2286, w64 (x1223 + 1))
 else
  ∃ r2292 : List api_Node, (trellisref15_Twin (x1221.take r23.2) r2292) ∧
  ∃ r2305 : trellisref15_Model, (trellisref15_Walk r2292 r2305) ∧
  ∃ r2324 : tree_Cursor, (tree_Walk (x1221.take r23.2) r2324) ∧
  ∃ r2387 : Int × tree_stand, (tree_stand_Place r2324.stand r2387) ∧
  ∃ r2412 : Int × trellisref15_Model, (trellisref15_Model_Place r2305 r2412) ∧
  if r2387.1 = r2412.1 then
   Rounds (fun (s : Int × (List trellisref15_Tree) × Int × (List api_Node) × (List Int) × (List Int) × Bool × Int) o => trellislaw15_TreeWalks_b3 x6 s.1 s.2.1 s.2.2.1 s.2.2.2.1 s.2.2.2.2.1 s.2.2.2.2.2.1 s.2.2.2.2.2.2.1 s.2.2.2.2.2.2.2 o) (0, x128, x135, x136, x143, x150, x157, x158) o1
  else
   o1 = .inr (false)
def trellislaw15_TreeWalks_j1 (r23 : (List api_Node) × Nat) (x6 : List Int) (x127 : Bool) (x128 : List trellisref15_Tree) (x135 : Int) (x136 : List api_Node) (x143 : List Int) (x150 : List Int) (x157 : Bool) (x158 : Int) (r : Bool) : Prop :=
 if x127 = true then
  r = false
 else
  Rounds (fun (s : (List api_Node) × Int) o => trellislaw15_TreeWalks_b2 r23 x6 x128 x135 x136 x143 x150 x157 x158 s.1 s.2 o) (r23.1, 0) r
def trellislaw15_TreeWalks (x1 : List api_Node) (x6 : List Int) (r : Bool) : Prop :=
 ∃ r14 : Bool, (trellisref15_Beyond x1 r14) ∧
 if r14 = true then
  r = true
 else
  ∃ r23 : (List api_Node) × Nat, (trellislaw15_roomy x1 r23) ∧
  ∃ r37 : tree_Cursor, (tree_Walk (r23.1.take r23.2) r37) ∧
  ∃ r61 : trellisref15_Model, (trellisref15_Walk x1 r61) ∧
  ∃ r3345 : Int × tree_stand, (tree_stand_Place r37.stand r3345) ∧
  ∃ r3370 : Int × trellisref15_Model, (trellisref15_Model_Place r61 r3370) ∧
  if r3345.1 = r3370.1 then
   ∃ r3385 : Bool, (trellislaw15_stays r23.1 r23.2 x1 r3385) ∧
   trellislaw15_TreeWalks_j1 r23 x6 (!r3385) r3370.2.f r3370.2.at_ r3345.2.forest.nodes r3345.2.forest.parent r3345.2.forest.end_ r3345.2.forest.ok r3345.2.at_ r
  else
   trellislaw15_TreeWalks_j1 r23 x6 true r3370.2.f r3370.2.at_ r3345.2.forest.nodes r3345.2.forest.parent r3345.2.forest.end_ r3345.2.forest.ok r3345.2.at_ r
def tree_Token_j1 (x46 : Int) (x1 : api_Lang) (x48 : Int) (x49 : Int) (x47 : Int) (x54 : Bool) (r : List api_Node) : Prop :=
 if x54 = true then
  r = ([] : List api_Node)
 else
  (0 ≤ x46 ∧ x46 < (x1.gram.terms.length : Int)) ∧
  r = ([(⟨(ix x1.gram.terms x46).name, (!((ix x1.gram.terms x46).lit)), (⟨#[]⟩ : ByteArray), x48, x49, 0, x47⟩ : api_Node)] : List api_Node)
def tree_Token (x1 : api_Lang) (x46 : Int) (x47 : Int) (x48 : Int) (x49 : Int) (r : List api_Node) : Prop :=
 if x46 < 1 then
  tree_Token_j1 x46 x1 x48 x49 x47 true r
 else
  tree_Token_j1 x46 x1 x48 x49 x47 (decide (x46 ≥ (x1.gram.terms.length : Int))) r
def trellisref15_list_b1 (x1 : List trellisref15_Tree) (rc_trellisref15_list : (List trellisref15_Tree) → (List api_Node) → Prop) (x61 : List api_Node) (x66 : Int) (o1 : Sum ((List api_Node) × Int) (List api_Node)) : Prop :=
 if x66 < (x1.length : Int) then
  (0 ≤ x66 ∧ x66 < (x1.length : Int)) ∧
  ∃ x144 : List api_Node, (x144 = x61 ++ ([(⟨((ix x1 x66).node).name, ((ix x1 x66).node).named, ((ix x1 x66).node).field, ((ix x1 x66).node).from_, ((ix x1 x66).node).to, (((ix x1 x66).kids).length : Int), ((ix x1 x66).node).leaf⟩ : api_Node)] : List api_Node)) ∧
  (x144.length * 72 ≤ 211106232532992) ∧
  ∃ r157 : List api_Node, (rc_trellisref15_list ((ix x1 x66).kids) r157) ∧
  ∃ x170 : List api_Node, (x170 = x144 ++ r157) ∧
  (x170.length * 72 ≤ 211106232532992) ∧
  o1 = .inl (x170, w64 (x66 + 1))
 else
  o1 = .inr (x61)
def trellisref15_list_body (rc_trellisref15_list : (List trellisref15_Tree) → (List api_Node) → Prop) (x1 : List trellisref15_Tree) (r : List api_Node) : Prop :=
 Rounds (fun (s : (List api_Node) × Int) o => trellisref15_list_b1 x1 rc_trellisref15_list s.1 s.2 o) (([] : List api_Node), 0) r
def trellisref15_list_n : Nat → (List trellisref15_Tree) → (List api_Node) → Prop
 | 0 => fun _ _ => False
 | n + 1 => trellisref15_list_body (trellisref15_list_n n)
def trellisref15_list (x1 : List trellisref15_Tree) (r : List api_Node) : Prop := ∃ n, trellisref15_list_n n x1 r
def tree_forest_beside_b1 (x15 : Int) (x1 : tree_forest) (x32 : Int) (x33 : List Int) (o1 : Sum (Int × (List Int)) (List Int)) : Prop :=
 if x32 < x15 then
  ∃ x57 : List Int, (x57 = x33 ++ ([x32] : List Int)) ∧
  (x57.length * 8 ≤ 211106232532992) ∧
  (0 ≤ x32 ∧ x32 < (x1.end_.length : Int)) ∧
  o1 = .inl (ix x1.end_ x32, x57)
 else
  o1 = .inr (x33)
def tree_forest_beside (x1 : tree_forest) (x14 : Int) (x15 : Int) (r : List Int) : Prop :=
 Rounds (fun (s : Int × (List Int)) o => tree_forest_beside_b1 x15 x1 s.1 s.2 o) (x14, ([] : List Int)) r
def tree_roots (x1 : List api_Node) (r : List Int) : Prop :=
 ∃ r9 : tree_forest, (tree_plant x1 r9) ∧
 if r9.ok = true then
  ∃ r36 : List Int, (tree_forest_beside r9 0 (x1.length : Int) r36) ∧
  r = r36
 else
  r = ([] : List Int)
def tree_Roots (x1 : List api_Node) (r : Int) : Prop :=
 ∃ r9 : tree_forest, (tree_plant x1 r9) ∧
 if r9.ok = true then
  ∃ r34 : List Int, (tree_roots x1 r34) ∧
  r = (r34.length : Int)
 else
  r = -1
def slices_Clone_api_Node_api_Node (x1 : List api_Node) (r : List api_Node) : Prop :=
 ∀ b6 : Bool, (b6 = true → x1 = []) →
 if b6 = true then
  r = ([] : List api_Node)
 else
  ∃ x15 : List api_Node, (x15 = ([] : List api_Node) ++ x1) ∧
  (x15.length * 72 ≤ 211106232532992) ∧
  r = x15
def tree_token (x1 : api_Gram) (x14 : Int) (r : Bool) : Prop :=
 if x14 ≥ 0 then
  r = decide (x14 < (x1.terms.length : Int))
 else
  r = false
def internal_stringslite_HasPrefix (x1 : ByteArray) (x2 : ByteArray) (r : Bool) : Prop :=
 if (x1.size : Int) ≥ (x2.size : Int) then
  (0 ≤ (0 : Int) ∧ (0 : Int) ≤ (x2.size : Int) ∧ (x2.size : Int) ≤ (x1.size : Int)) ∧
  r = (seq (x1.extract (0 : Int).toNat ((x2.size : Int) : Int).toNat) x2)
 else
  r = false
def strings_HasPrefix (x1 : ByteArray) (x2 : ByteArray) (r : Bool) : Prop :=
 ∃ r6 : Bool, (internal_stringslite_HasPrefix x1 x2 r6) ∧
 r = r6
def tree_hidden (x1 : api_Gram) (x14 : Int) (r : Bool) : Prop :=
 ∃ r20 : Bool, (tree_token x1 x14 r20) ∧
 if r20 = true then
  (0 ≤ x14 ∧ x14 < (x1.terms.length : Int)) ∧
  if ((ix x1.terms x14).lit) = true then
   r = false
  else
   ∃ r33 : Bool, (strings_HasPrefix ((ix x1.terms x14).name) (⟨#[95]⟩ : ByteArray) r33) ∧
   r = r33
 else
  r = false
def tree_Show (x1 : api_Lang) (x46 : Int) (x47 : List api_Node) (r : List api_Node) : Prop :=
 ∃ r57 : Bool, (tree_hidden x1.gram x46 r57) ∧
 if r57 = true then
  r = ([] : List api_Node)
 else
  ∃ r66 : List api_Node, (slices_Clone_api_Node_api_Node x47 r66) ∧
  r = r66
def tree_shown (x1 : api_Gram) (x14 : Int) (r : Bool) : Prop :=
 if x14 ≥ 0 then
  if w64 (x14 - (x1.terms.length : Int)) ≥ 0 then
   if w64 (x14 - (x1.terms.length : Int)) < (x1.syms.length : Int) then
    (0 ≤ w64 (x14 - (x1.terms.length : Int)) ∧ w64 (x14 - (x1.terms.length : Int)) < (x1.syms.length : Int)) ∧
    r = (((ix x1.syms (w64 (x14 - (x1.terms.length : Int)))).kind) == 1)
   else
    r = false
  else
   r = false
 else
  r = false
def tree_over (x1 : ByteArray) (x2 : List api_Node) (x7 : Int) (r : List api_Node) : Prop :=
 ∃ r13 : List Int, (tree_roots x2 r13) ∧
 if (r13.length : Int) > 0 then
  (0 ≤ (0 : Int) ∧ (0 : Int) < (r13.length : Int)) ∧
  (0 ≤ ix r13 0 ∧ ix r13 0 < (x2.length : Int)) ∧
  (0 ≤ w64 ((r13.length : Int) - 1) ∧ w64 ((r13.length : Int) - 1) < (r13.length : Int)) ∧
  (0 ≤ ix r13 (w64 ((r13.length : Int) - 1)) ∧ ix r13 (w64 ((r13.length : Int) - 1)) < (x2.length : Int)) ∧
  ∃ x40 : List api_Node, (x40 = ([(⟨x1, true, (⟨#[]⟩ : ByteArray), (ix x2 (ix r13 0)).from_, (ix x2 (ix r13 (w64 ((r13.length : Int) - 1)))).to, (r13.length : Int), -1⟩ : api_Node)] : List api_Node) ++ x2) ∧
  (x40.length * 72 ≤ 211106232532992) ∧
  r = x40
 else
  ∃ x49 : List api_Node, (x49 = ([(⟨x1, true, (⟨#[]⟩ : ByteArray), x7, x7, (r13.length : Int), -1⟩ : api_Node)] : List api_Node) ++ x2) ∧
  (x49.length * 72 ≤ 211106232532992) ∧
  r = x49
def tree_part_b2 (r190 : List Int) (x46 : api_Ref) (x208 : List api_Node) (x210 : Int) (o1 : Sum ((List api_Node) × Int) (List api_Node)) : Prop :=
 if x210 < (r190.length : Int) then
  (0 ≤ x210 ∧ x210 < (r190.length : Int)) ∧
  (0 ≤ ix r190 x210 ∧ ix r190 x210 < (x208.length : Int)) ∧
  if (ix x208 (ix r190 x210)).field = (⟨#[]⟩ : ByteArray) then
   ∃ x222 : List api_Node, (x222 = x208.set (ix r190 x210 : Int).toNat ({ (ix x208 (ix r190 x210)) with field := x46.field })) ∧
   o1 = .inl (x222, w64 (x210 + 1))
  else
   o1 = .inl (x208, w64 (x210 + 1))
 else
  o1 = .inr (x208)
def tree_part_j1 (x46 : api_Ref) (x182 : List api_Node) (r : List api_Node) : Prop :=
 ∃ r190 : List Int, (tree_roots x182 r190) ∧
 Rounds (fun (s : (List api_Node) × Int) o => tree_part_b2 r190 x46 s.1 s.2 o) (x182, 0) r
def tree_part_b4 (r274 : List Int) (x46 : api_Ref) (x297 : List api_Node) (x299 : Int) (o1 : Sum ((List api_Node) × Int) (List api_Node)) : Prop :=
 if x299 < (r274.length : Int) then
  (0 ≤ x299 ∧ x299 < (r274.length : Int)) ∧
  (0 ≤ ix r274 x299 ∧ ix r274 x299 < (x297.length : Int)) ∧
  ∃ x315 : List api_Node, (x315 = x297.set (ix r274 x299 : Int).toNat ({ (ix x297 (ix r274 x299)) with name := x46.as })) ∧
  (0 ≤ ix r274 x299 ∧ ix r274 x299 < (x315.length : Int)) ∧
  ∃ x319 : List api_Node, (x319 = x315.set (ix r274 x299 : Int).toNat ({ (ix x315 (ix r274 x299)) with named := true })) ∧
  o1 = .inl (x319, w64 (x299 + 1))
 else
  ∃ q322 : List api_Node, (o1 = .inr (q322)) ∧
  tree_part_j1 x46 x297 q322
def tree_part_j3 (x46 : api_Ref) (r60 : List api_Node) (x52 : Int) (x256 : Bool) (r : List api_Node) : Prop :=
 if x256 = true then
  ∃ r261 : List api_Node, (tree_over x46.as r60 x52 r261) ∧
  tree_part_j1 x46 r261 r
 else
  ∃ r274 : List Int, (tree_roots r60 r274) ∧
  Rounds (fun (s : (List api_Node) × Int) o => tree_part_b4 r274 x46 s.1 s.2 o) (r60, 0) r
def tree_part (x1 : api_Lang) (x46 : api_Ref) (x47 : List api_Node) (x52 : Int) (r : List api_Node) : Prop :=
 ∃ r60 : List api_Node, (slices_Clone_api_Node_api_Node x47 r60) ∧
 if x46.as = (⟨#[]⟩ : ByteArray) then
  ∃ r228 : List api_Node, (tree_Show x1 x46.sym x47 r228) ∧
  tree_part_j1 x46 r228 r
 else
  ∃ r327 : Bool, (tree_token x1.gram x46.sym r327) ∧
  if r327 = true then
   tree_part_j3 x46 r60 x52 false r
  else
   ∃ r336 : Bool, (tree_shown x1.gram x46.sym r336) ∧
   tree_part_j3 x46 r60 x52 (!r336) r
def tree_Reduce_j4 (x1 : api_Lang) (x46 : Int) (x52 : List Int) (x285 : List api_Node) (x592 : Bool) (o1 : Sum ((List api_Node) × Int) (List api_Node)) : Prop :=
 if x592 = true then
  (0 ≤ (ix x1.gram.prods x46).lhs ∧ (ix x1.gram.prods x46).lhs < (x1.gram.syms.length : Int)) ∧
  (0 ≤ (((ix x1.gram.prods x46).rhs).length : Int) ∧ (((ix x1.gram.prods x46).rhs).length : Int) < (x52.length : Int)) ∧
  ∃ r601 : List api_Node, (tree_over ((ix x1.gram.syms ((ix x1.gram.prods x46).lhs)).name) x285 (ix x52 (((ix x1.gram.prods x46).rhs).length : Int)) r601) ∧
  o1 = .inr (r601)
 else
  o1 = .inr (x285)
def tree_Reduce_b3 (x1 : api_Lang) (x46 : Int) (x47 : List (List api_Node)) (x52 : List Int) (x285 : List api_Node) (x290 : Int) (o1 : Sum ((List api_Node) × Int) (List api_Node)) : Prop :=
 if x290 < (((ix x1.gram.prods x46).rhs).length : Int) then
  (0 ≤ x290 ∧ x290 < (((ix x1.gram.prods x46).rhs).length : Int)) ∧
  (0 ≤ x290 ∧ x290 < (x47.length : Int)) ∧
  ∃ r491 : Int, (tree_Roots (ix x47 x290) r491) ∧
  if r491 < 0 then
   o1 = .inr (([] : List api_Node))
  else
   (0 ≤ w64 (x290 + 1) ∧ w64 (x290 + 1) < (x52.length : Int)) ∧
   ∃ r509 : List api_Node, (tree_part x1 (ix ((ix x1.gram.prods x46).rhs) x290) (ix x47 x290) (ix x52 (w64 (x290 + 1))) r509) ∧
   ∃ x522 : List api_Node, (x522 = x285 ++ r509) ∧
   (x522.length * 72 ≤ 211106232532992) ∧
   o1 = .inl (x522, w64 (x290 + 1))
 else
  if (ix x1.gram.prods x46).lhs ≥ 0 then
   if (ix x1.gram.prods x46).lhs < (x1.gram.syms.length : Int) then
    (0 ≤ (ix x1.gram.prods x46).lhs ∧ (ix x1.gram.prods x46).lhs < (x1.gram.syms.length : Int)) ∧
    tree_Reduce_j4 x1 x46 x52 x285 (((ix x1.gram.syms ((ix x1.gram.prods x46).lhs)).kind) == 1) o1
   else
    tree_Reduce_j4 x1 x46 x52 x285 false o1
  else
   tree_Reduce_j4 x1 x46 x52 x285 false o1
def tree_Reduce_j2 (x1 : api_Lang) (x46 : Int) (x47 : List (List api_Node)) (x52 : List Int) (x75 : Bool) (r : List api_Node) : Prop :=
 if x75 = true then
  r = ([] : List api_Node)
 else
  Rounds (fun (s : (List api_Node) × Int) o => tree_Reduce_b3 x1 x46 x47 x52 s.1 s.2 o) (([] : List api_Node), 0) r
def tree_Reduce_j1 (x46 : Int) (x1 : api_Lang) (x47 : List (List api_Node)) (x52 : List Int) (x61 : Bool) (r : List api_Node) : Prop :=
 if x61 = true then
  r = ([] : List api_Node)
 else
  (0 ≤ x46 ∧ x46 < (x1.gram.prods.length : Int)) ∧
  if (x47.length : Int) = (((ix x1.gram.prods x46).rhs).length : Int) then
   tree_Reduce_j2 x1 x46 x47 x52 ((x52.length : Int) != (w64 ((((ix x1.gram.prods x46).rhs).length : Int) + 1))) r
  else
   tree_Reduce_j2 x1 x46 x47 x52 true r
def tree_Reduce (x1 : api_Lang) (x46 : Int) (x47 : List (List api_Node)) (x52 : List Int) (r : List api_Node) : Prop :=
 if x46 < 0 then
  tree_Reduce_j1 x46 x1 x47 x52 true r
 else
  tree_Reduce_j1 x46 x1 x47 x52 (decide (x46 ≥ (x1.gram.prods.length : Int))) r
def trellislaw15_sameInts_b1 (x1 : List Int) (x6 : List Int) (x23 : Int) (o1 : Sum Int Bool) : Prop :=
 if x23 < (x1.length : Int) then
  (0 ≤ x23 ∧ x23 < (x1.length : Int)) ∧
  (0 ≤ x23 ∧ x23 < (x6.length : Int)) ∧
  if ix x1 x23 = ix x6 x23 then
   o1 = .inl (w64 (x23 + 1))
  else
   o1 = .inr (false)
 else
  o1 = .inr (true)
def trellislaw15_sameInts (x1 : List Int) (x6 : List Int) (r : Bool) : Prop :=
 if (x1.length : Int) = (x6.length : Int) then
  Rounds (fun (s : Int) o => trellislaw15_sameInts_b1 x1 x6 s o) 0 r
 else
  r = false
def trellisref15_Kids_b1 (r30 : trellisref15_Tree × Int × Bool) (x63 : List Int) (x68 : Int) (o1 : Sum ((List Int) × Int) (List Int)) : Prop :=
 if x68 < (r30.1.kids.length : Int) then
  (0 ≤ x68 ∧ x68 < (r30.1.kids.length : Int)) ∧
  ∃ x102 : List Int, (x102 = x63 ++ ([(ix r30.1.kids x68).at_] : List Int)) ∧
  (x102.length * 8 ≤ 211106232532992) ∧
  o1 = .inl (x102, w64 (x68 + 1))
 else
  o1 = .inr (x63)
def trellisref15_Kids (x1 : List api_Node) (x6 : Int) (r : List Int) : Prop :=
 ∃ r10 : (List trellisref15_Tree) × Bool, (trellisref15_Forest x1 r10) ∧
 ∃ r30 : trellisref15_Tree × Int × Bool, (trellisref15_find r10.1 x6 (-1) r30) ∧
 Rounds (fun (s : (List Int) × Int) o => trellisref15_Kids_b1 r30 s.1 s.2 o) (([] : List Int), 0) r
def trellisref15_path_j2 (x81 : Int) (x1 : List trellisref15_Tree) (rc_trellisref15_path : (List trellisref15_Tree) → Int → (List Int) → Prop) (x6 : Int) (x173 : Bool) (o1 : Sum Int (List Int)) : Prop :=
 if x173 = true then
  (0 ≤ x81 ∧ x81 < (x1.length : Int)) ∧
  ∃ r186 : List Int, (rc_trellisref15_path ((ix x1 x81).kids) x6 r186) ∧
  ∃ x209 : List Int, (x209 = ([(ix x1 x81).at_] : List Int) ++ r186) ∧
  (x209.length * 8 ≤ 211106232532992) ∧
  o1 = .inr (x209)
 else
  o1 = .inl (w64 (x81 + 1))
def trellisref15_path_b1 (x1 : List trellisref15_Tree) (x6 : Int) (rc_trellisref15_path : (List trellisref15_Tree) → Int → (List Int) → Prop) (x81 : Int) (o1 : Sum Int (List Int)) : Prop :=
 if x81 < (x1.length : Int) then
  (0 ≤ x81 ∧ x81 < (x1.length : Int)) ∧
  if ((ix x1 x81).node).from_ ≤ x6 then
   trellisref15_path_j2 x81 x1 rc_trellisref15_path x6 (decide (((ix x1 x81).node).to > x6)) o1
  else
   trellisref15_path_j2 x81 x1 rc_trellisref15_path x6 false o1
 else
  o1 = .inr (([] : List Int))
def trellisref15_path_body (rc_trellisref15_path : (List trellisref15_Tree) → Int → (List Int) → Prop) (x1 : List trellisref15_Tree) (x6 : Int) (r : List Int) : Prop :=
 Rounds (fun (s : Int) o => trellisref15_path_b1 x1 x6 rc_trellisref15_path s o) 0 r
def trellisref15_path_n : Nat → (List trellisref15_Tree) → Int → (List Int) → Prop
 | 0 => fun _ _ _ => False
 | n + 1 => trellisref15_path_body (trellisref15_path_n n)
def trellisref15_path (x1 : List trellisref15_Tree) (x6 : Int) (r : List Int) : Prop := ∃ n, trellisref15_path_n n x1 x6 r
def trellisref15_Path (x1 : List api_Node) (x6 : Int) (r : List Int) : Prop :=
 ∃ r10 : (List trellisref15_Tree) × Bool, (trellisref15_Forest x1 r10) ∧
 ∃ r27 : List Int, (trellisref15_path r10.1 x6 r27) ∧
 r = r27
def tree_Kids (x1 : List api_Node) (x6 : Int) (r : List Int) : Prop :=
 ∃ r10 : tree_forest, (tree_plant x1 r10) ∧
 ∃ r36 : Bool, (tree_forest_has r10 x6 r36) ∧
 if r36 = true then
  (0 ≤ x6 ∧ x6 < (r10.end_.length : Int)) ∧
  ∃ r46 : List Int, (tree_forest_beside r10 (w64 (x6 + 1)) (ix r10.end_ x6) r46) ∧
  r = r46
 else
  r = ([] : List Int)
def tree_Path_j2 (x59 : List Int) (x64 : Int) (r10 : tree_forest) (x65 : Int) (x95 : Bool) (o1 : Sum ((List Int) × Int × Int) (List Int)) : Prop :=
 if x95 = true then
  ∃ x103 : List Int, (x103 = x59 ++ ([x64] : List Int)) ∧
  (x103.length * 8 ≤ 211106232532992) ∧
  (0 ≤ x64 ∧ x64 < (r10.end_.length : Int)) ∧
  o1 = .inl (x103, w64 (x64 + 1), ix r10.end_ x64)
 else
  (0 ≤ x64 ∧ x64 < (r10.end_.length : Int)) ∧
  o1 = .inl (x59, ix r10.end_ x64, x65)
def tree_Path_b1 (x1 : List api_Node) (x6 : Int) (r10 : tree_forest) (x59 : List Int) (x64 : Int) (x65 : Int) (o1 : Sum ((List Int) × Int × Int) (List Int)) : Prop :=
 if x64 < x65 then
  (0 ≤ x64 ∧ x64 < (x1.length : Int)) ∧
  if (ix x1 x64).from_ ≤ x6 then
   tree_Path_j2 x59 x64 r10 x65 (decide (x6 < (ix x1 x64).to)) o1
  else
   tree_Path_j2 x59 x64 r10 x65 false o1
 else
  o1 = .inr (x59)
def tree_Path (x1 : List api_Node) (x6 : Int) (r : List Int) : Prop :=
 ∃ r10 : tree_forest, (tree_plant x1 r10) ∧
 if r10.ok = true then
  Rounds (fun (s : (List Int) × Int × Int) o => tree_Path_b1 x1 x6 r10 s.1 s.2.1 s.2.2 o) (([] : List Int), 0, (x1.length : Int)) r
 else
  r = ([] : List Int)
def trellislaw15_marked_b1 (x6 : List Int) (x1 : List Int) (x11 : Int) (x12 : Int) (x29 : Int) (o1 : Sum Int Bool) : Prop :=
 if x29 < (x6.length : Int) then
  if x29 < (x1.length : Int) then
   (0 ≤ x29 ∧ x29 < (x1.length : Int)) ∧
   if ix x1 x29 = x11 then
    (0 ≤ x29 ∧ x29 < (x6.length : Int)) ∧
    if ix x6 x29 = x11 then
     if x29 ≥ (x1.length : Int) then
      if ix x6 x29 = x12 then
       o1 = .inl (w64 (x29 + 1))
      else
       o1 = .inr (false)
     else
      o1 = .inl (w64 (x29 + 1))
    else
     o1 = .inr (false)
   else
    o1 = .inr (false)
  else
   if x29 ≥ (x1.length : Int) then
    (0 ≤ x29 ∧ x29 < (x6.length : Int)) ∧
    if ix x6 x29 = x12 then
     o1 = .inl (w64 (x29 + 1))
    else
     o1 = .inr (false)
   else
    o1 = .inl (w64 (x29 + 1))
 else
  o1 = .inr (((x6.length : Int) == (w64 ((x1.length : Int) + 70))))
def trellislaw15_marked (x1 : List Int) (x6 : List Int) (x11 : Int) (x12 : Int) (r : Bool) : Prop :=
 Rounds (fun (s : Int) o => trellislaw15_marked_b1 x6 x1 x11 x12 s o) 0 r
def tree_Size (x1 : List api_Node) (x6 : Int) (r : Int) : Prop :=
 ∃ r10 : tree_forest, (tree_plant x1 r10) ∧
 ∃ r36 : Bool, (tree_forest_has r10 x6 r36) ∧
 if r36 = true then
  (0 ≤ x6 ∧ x6 < (r10.end_.length : Int)) ∧
  r = w64 ((ix r10.end_ x6) - x6)
 else
  r = 0
def tree_Parent (x1 : List api_Node) (x6 : Int) (r : Int) : Prop :=
 ∃ r10 : tree_forest, (tree_plant x1 r10) ∧
 ∃ r36 : Bool, (tree_forest_has r10 x6 r36) ∧
 if r36 = true then
  (0 ≤ x6 ∧ x6 < (r10.parent.length : Int)) ∧
  r = ix r10.parent x6
 else
  r = -1
def strings_Builder_copyCheck (x1 : strings_Builder) (r : strings_Builder) : Prop :=
 if x1.addr = true then
  r = x1
 else
  r = (⟨true, x1.buf⟩ : strings_Builder)
def strings_Builder_WriteByte (x1 : strings_Builder) (x9 : Int) (r : strings_Builder) : Prop :=
 ∃ r13 : strings_Builder, (strings_Builder_copyCheck x1 r13) ∧
 ∃ x24 : List Int, (x24 = x1.buf ++ ([x9] : List Int)) ∧
 (x24.length * 1 ≤ 211106232532992) ∧
 r = (⟨r13.addr, x24⟩ : strings_Builder)
def strings_Builder_WriteString (x1 : strings_Builder) (x9 : ByteArray) (r : Int × strings_Builder) : Prop :=
 ∃ r13 : strings_Builder, (strings_Builder_copyCheck x1 r13) ∧
 ∃ x21 : List Int, (x21 = x1.buf ++ bsOf x9) ∧
 (x21.length * 1 ≤ 211106232532992) ∧
 r = ((x9.size : Int), (⟨r13.addr, x21⟩ : strings_Builder))
def strings_Builder_String (x1 : strings_Builder) (r : ByteArray) : Prop :=
 r = ofBs x1.buf
def tree_quoted_j3 (x1 : ByteArray) (x135 : Int) (x136 : Bool) (x137 : List Int) (x289 : Bool) (o1 : Sum (Int × Bool × (List Int)) ByteArray) : Prop :=
 if x289 = true then
  (0 ≤ shrV .u8 (ix (bsOf x1) x135) 4 ∧ shrV .u8 (ix (bsOf x1) x135) 4 < ((⟨#[48, 49, 50, 51, 52, 53, 54, 55, 56, 57, 97, 98, 99, 100, 101, 102]⟩ : ByteArray).size : Int)) ∧
  ((⟨#[92, 120]⟩ : ByteArray).size + (chrB (bt (⟨#[48, 49, 50, 51, 52, 53, 54, 55, 56, 57, 97, 98, 99, 100, 101, 102]⟩ : ByteArray) (shrV .u8 (ix (bsOf x1) x135) 4))).size ≤ 9223372036854775807) ∧
  (0 ≤ bits .and .u8 (ix (bsOf x1) x135) 15 ∧ bits .and .u8 (ix (bsOf x1) x135) 15 < ((⟨#[48, 49, 50, 51, 52, 53, 54, 55, 56, 57, 97, 98, 99, 100, 101, 102]⟩ : ByteArray).size : Int)) ∧
  (((⟨#[92, 120]⟩ : ByteArray) ++ (chrB (bt (⟨#[48, 49, 50, 51, 52, 53, 54, 55, 56, 57, 97, 98, 99, 100, 101, 102]⟩ : ByteArray) (shrV .u8 (ix (bsOf x1) x135) 4)))).size + (chrB (bt (⟨#[48, 49, 50, 51, 52, 53, 54, 55, 56, 57, 97, 98, 99, 100, 101, 102]⟩ : ByteArray) (bits .and .u8 (ix (bsOf x1) x135) 15))).size ≤ 9223372036854775807) ∧
  ∃ r298 : Int × strings_Builder, (strings_Builder_WriteString (⟨x136, x137⟩ : strings_Builder) (((⟨#[92, 120]⟩ : ByteArray) ++ (chrB (bt (⟨#[48, 49, 50, 51, 52, 53, 54, 55, 56, 57, 97, 98, 99, 100, 101, 102]⟩ : ByteArray) (shrV .u8 (ix (bsOf x1) x135) 4)))) ++ (chrB (bt (⟨#[48, 49, 50, 51, 52, 53, 54, 55, 56, 57, 97, 98, 99, 100, 101, 102]⟩ : ByteArray) (bits .and .u8 (ix (bsOf x1) x135) 15)))) r298) ∧
  o1 = .inl (w64 (x135 + 1), r298.2.addr, r298.2.buf)
 else
  ∃ r331 : strings_Builder, (strings_Builder_WriteByte (⟨x136, x137⟩ : strings_Builder) (ix (bsOf x1) x135) r331) ∧
  o1 = .inl (w64 (x135 + 1), r331.addr, r331.buf)
def tree_quoted_j2 (x1 : ByteArray) (x135 : Int) (x136 : Bool) (x137 : List Int) (x257 : Bool) (o1 : Sum (Int × Bool × (List Int)) ByteArray) : Prop :=
 if x257 = true then
  ((⟨#[92]⟩ : ByteArray).size + (chrB (IntKind.i32.wrap (ix (bsOf x1) x135))).size ≤ 9223372036854775807) ∧
  ∃ r263 : Int × strings_Builder, (strings_Builder_WriteString (⟨x136, x137⟩ : strings_Builder) ((⟨#[92]⟩ : ByteArray) ++ (chrB (IntKind.i32.wrap (ix (bsOf x1) x135)))) r263) ∧
  o1 = .inl (w64 (x135 + 1), r263.2.addr, r263.2.buf)
 else
  if ix (bsOf x1) x135 = 10 then
   ∃ r277 : Int × strings_Builder, (strings_Builder_WriteString (⟨x136, x137⟩ : strings_Builder) (⟨#[92, 110]⟩ : ByteArray) r277) ∧
   o1 = .inl (w64 (x135 + 1), r277.2.addr, r277.2.buf)
  else
   if ix (bsOf x1) x135 < 32 then
    tree_quoted_j3 x1 x135 x136 x137 true o1
   else
    tree_quoted_j3 x1 x135 x136 x137 (decide (ix (bsOf x1) x135 > 126)) o1
def tree_quoted_b1 (x1 : ByteArray) (x135 : Int) (x136 : Bool) (x137 : List Int) (o1 : Sum (Int × Bool × (List Int)) ByteArray) : Prop :=
 if x135 < ((bsOf x1).length : Int) then
  (0 ≤ x135 ∧ x135 < ((bsOf x1).length : Int)) ∧
  if ix (bsOf x1) x135 = 34 then
   tree_quoted_j2 x1 x135 x136 x137 true o1
  else
   tree_quoted_j2 x1 x135 x136 x137 ((ix (bsOf x1) x135) == 92) o1
 else
  ∃ r346 : strings_Builder, (strings_Builder_WriteByte (⟨x136, x137⟩ : strings_Builder) 34 r346) ∧
  ∃ r359 : ByteArray, (strings_Builder_String r346 r359) ∧
  o1 = .inr (r359)
def tree_quoted (x1 : ByteArray) (r : ByteArray) : Prop :=
 ∃ r8 : strings_Builder, (strings_Builder_WriteByte (⟨false, ([] : List Int)⟩ : strings_Builder) 34 r8) ∧
 (x1.size ≤ 9223372036854775807) ∧
 Rounds (fun (s : Int × Bool × (List Int)) o => tree_quoted_b1 x1 s.1 s.2.1 s.2.2 o) (0, r8.addr, r8.buf) r
def tree_Text_b7 (r9 : tree_forest) (x267 : Int) (x662 : List Int) (x667 : Bool) (x668 : List Int) (o2 : Sum ((List Int) × Bool × (List Int)) (Sum ((List Int) × Int × Bool × (List Int)) ByteArray)) : Prop :=
 if (x662.length : Int) > 0 then
  (0 ≤ w64 ((x662.length : Int) - 1) ∧ w64 ((x662.length : Int) - 1) < (x662.length : Int)) ∧
  (0 ≤ ix x662 (w64 ((x662.length : Int) - 1)) ∧ ix x662 (w64 ((x662.length : Int) - 1)) < (r9.end_.length : Int)) ∧
  if ix r9.end_ (ix x662 (w64 ((x662.length : Int) - 1))) = w64 (x267 + 1) then
   ∃ r702 : strings_Builder, (strings_Builder_WriteByte (⟨x667, x668⟩ : strings_Builder) 41 r702) ∧
   (0 ≤ (0 : Int) ∧ (0 : Int) ≤ w64 ((x662.length : Int) - 1) ∧ w64 ((x662.length : Int) - 1) ≤ (x662.length : Int)) ∧
   ∃ x714 : List Int, (x714 = x662.take (w64 ((x662.length : Int) - 1) : Int).toNat) ∧
   o2 = .inl (x714, r702.addr, r702.buf)
  else
   o2 = .inr (.inl (x662, w64 (x267 + 1), x667, x668))
 else
  o2 = .inr (.inl (x662, w64 (x267 + 1), x667, x668))
def tree_Text_j6 (x587 : ByteArray) (r9 : tree_forest) (x267 : Int) (x615 : List Int) (x620 : Bool) (x621 : List Int) (o1 : Sum ((List Int) × Int × Bool × (List Int)) ByteArray) : Prop :=
 ∃ r629 : Int × strings_Builder, (strings_Builder_WriteString (⟨x620, x621⟩ : strings_Builder) x587 r629) ∧
 Rounds (fun (s : (List Int) × Bool × (List Int)) o => tree_Text_b7 r9 x267 s.1 s.2.1 s.2.2 o) (x615, r629.2.addr, r629.2.buf) o1
def tree_Text_j5 (x571 : Bool) (x572 : List Int) (x262 : List Int) (x267 : Int) (x587 : ByteArray) (r9 : tree_forest) (x590 : Bool) (o1 : Sum ((List Int) × Int × Bool × (List Int)) ByteArray) : Prop :=
 if x590 = true then
  ∃ r721 : strings_Builder, (strings_Builder_WriteByte (⟨x571, x572⟩ : strings_Builder) 40 r721) ∧
  ∃ x737 : List Int, (x737 = x262 ++ ([x267] : List Int)) ∧
  (x737.length * 8 ≤ 211106232532992) ∧
  tree_Text_j6 x587 r9 x267 x737 r721.addr r721.buf o1
 else
  tree_Text_j6 x587 r9 x267 x262 x571 x572 o1
def tree_Text_j4 (x1 : List api_Node) (x267 : Int) (x571 : Bool) (x572 : List Int) (x262 : List Int) (r9 : tree_forest) (x587 : ByteArray) (o1 : Sum ((List Int) × Int × Bool × (List Int)) ByteArray) : Prop :=
 if ((ix x1 x267).named) = true then
  tree_Text_j5 x571 x572 x262 x267 x587 r9 true o1
 else
  tree_Text_j5 x571 x572 x262 x267 x587 r9 (decide ((ix x1 x267).kids > 0)) o1
def tree_Text_j3 (x1 : List api_Node) (x267 : Int) (x262 : List Int) (r9 : tree_forest) (x571 : Bool) (x572 : List Int) (o1 : Sum ((List Int) × Int × Bool × (List Int)) ByteArray) : Prop :=
 if ((ix x1 x267).named) = true then
  tree_Text_j4 x1 x267 x571 x572 x262 r9 ((ix x1 x267).name) o1
 else
  ∃ r744 : ByteArray, (tree_quoted ((ix x1 x267).name) r744) ∧
  tree_Text_j4 x1 x267 x571 x572 x262 r9 r744 o1
def tree_Text_j2 (x1 : List api_Node) (x267 : Int) (x262 : List Int) (r9 : tree_forest) (x549 : Bool) (x550 : List Int) (o1 : Sum ((List Int) × Int × Bool × (List Int)) ByteArray) : Prop :=
 if (ix x1 x267).field = (⟨#[]⟩ : ByteArray) then
  tree_Text_j3 x1 x267 x262 r9 x549 x550 o1
 else
  (((ix x1 x267).field).size + (⟨#[58, 32]⟩ : ByteArray).size ≤ 9223372036854775807) ∧
  ∃ r753 : Int × strings_Builder, (strings_Builder_WriteString (⟨x549, x550⟩ : strings_Builder) (((ix x1 x267).field) ++ (⟨#[58, 32]⟩ : ByteArray)) r753) ∧
  tree_Text_j3 x1 x267 x262 r9 r753.2.addr r753.2.buf o1
def tree_Text_b1 (x1 : List api_Node) (r9 : tree_forest) (x262 : List Int) (x267 : Int) (x268 : Bool) (x269 : List Int) (o1 : Sum ((List Int) × Int × Bool × (List Int)) ByteArray) : Prop :=
 if x267 < (x1.length : Int) then
  (0 ≤ x267 ∧ x267 < (x1.length : Int)) ∧
  if x267 > 0 then
   ∃ r766 : strings_Builder, (strings_Builder_WriteByte (⟨x268, x269⟩ : strings_Builder) 32 r766) ∧
   tree_Text_j2 x1 x267 x262 r9 r766.addr r766.buf o1
  else
   tree_Text_j2 x1 x267 x262 r9 x268 x269 o1
 else
  ∃ r779 : ByteArray, (strings_Builder_String (⟨x268, x269⟩ : strings_Builder) r779) ∧
  o1 = .inr (r779)
def tree_Text (x1 : List api_Node) (r : ByteArray) : Prop :=
 ∃ r9 : tree_forest, (tree_plant x1 r9) ∧
 if r9.ok = true then
  Rounds (fun (s : (List Int) × Int × Bool × (List Int)) o => tree_Text_b1 x1 r9 s.1 s.2.1 s.2.2.1 s.2.2.2 o) (([] : List Int), 0, false, ([] : List Int)) r
 else
  r = (⟨#[]⟩ : ByteArray)
def trellisref15_Roots (x1 : List api_Node) (r : Int) : Prop :=
 ∃ r9 : (List trellisref15_Tree) × Bool, (trellisref15_Forest x1 r9) ∧
 if r9.2 = true then
  r = (r9.1.length : Int)
 else
  r = -1
def trellisref15_Size (x1 : List api_Node) (x6 : Int) (r : Int) : Prop :=
 ∃ r10 : (List trellisref15_Tree) × Bool, (trellisref15_Forest x1 r10) ∧
 ∃ r30 : trellisref15_Tree × Int × Bool, (trellisref15_find r10.1 x6 (-1) r30) ∧
 if r30.2.2 = true then
  ∃ r51 : List api_Node, (trellisref15_list ([r30.1] : List trellisref15_Tree) r51) ∧
  r = (r51.length : Int)
 else
  r = 0
def trellisref15_Parent (x1 : List api_Node) (x6 : Int) (r : Int) : Prop :=
 ∃ r10 : (List trellisref15_Tree) × Bool, (trellisref15_Forest x1 r10) ∧
 ∃ r30 : trellisref15_Tree × Int × Bool, (trellisref15_find r10.1 x6 (-1) r30) ∧
 r = r30.2.1
def trellisref15_Quoted_j3 (x1 : ByteArray) (x85 : Int) (x80 : List Int) (x187 : Bool) (o1 : Sum ((List Int) × Int) ByteArray) : Prop :=
 if x187 = true then
  (0 ≤ w64 (Int.tdiv (w64 (bt x1 x85)) 16) ∧ w64 (Int.tdiv (w64 (bt x1 x85)) 16) < ((⟨#[48, 49, 50, 51, 52, 53, 54, 55, 56, 57, 97, 98, 99, 100, 101, 102]⟩ : ByteArray).size : Int)) ∧
  (0 ≤ Int.tmod (w64 (bt x1 x85)) 16 ∧ Int.tmod (w64 (bt x1 x85)) 16 < ((⟨#[48, 49, 50, 51, 52, 53, 54, 55, 56, 57, 97, 98, 99, 100, 101, 102]⟩ : ByteArray).size : Int)) ∧
  ∃ x197 : List Int, (x197 = x80 ++ ([92, 120, bt (⟨#[48, 49, 50, 51, 52, 53, 54, 55, 56, 57, 97, 98, 99, 100, 101, 102]⟩ : ByteArray) (w64 (Int.tdiv (w64 (bt x1 x85)) 16)), bt (⟨#[48, 49, 50, 51, 52, 53, 54, 55, 56, 57, 97, 98, 99, 100, 101, 102]⟩ : ByteArray) (Int.tmod (w64 (bt x1 x85)) 16)] : List Int)) ∧
  (x197.length * 1 ≤ 211106232532992) ∧
  o1 = .inl (x197, w64 (x85 + 1))
 else
  ∃ x220 : List Int, (x220 = x80 ++ ([bt x1 x85] : List Int)) ∧
  (x220.length * 1 ≤ 211106232532992) ∧
  o1 = .inl (x220, w64 (x85 + 1))
def trellisref15_Quoted_j2 (x80 : List Int) (x1 : ByteArray) (x85 : Int) (x164 : Bool) (o1 : Sum ((List Int) × Int) ByteArray) : Prop :=
 if x164 = true then
  ∃ x172 : List Int, (x172 = x80 ++ ([92, bt x1 x85] : List Int)) ∧
  (x172.length * 1 ≤ 211106232532992) ∧
  o1 = .inl (x172, w64 (x85 + 1))
 else
  if w64 (bt x1 x85) = 10 then
   ∃ x182 : List Int, (x182 = x80 ++ ([92, 110] : List Int)) ∧
   (x182.length * 1 ≤ 211106232532992) ∧
   o1 = .inl (x182, w64 (x85 + 1))
  else
   if w64 (bt x1 x85) < 32 then
    trellisref15_Quoted_j3 x1 x85 x80 true o1
   else
    trellisref15_Quoted_j3 x1 x85 x80 (decide (w64 (bt x1 x85) > 126)) o1
def trellisref15_Quoted_b1 (x1 : ByteArray) (x80 : List Int) (x85 : Int) (o1 : Sum ((List Int) × Int) ByteArray) : Prop :=
 if x85 < (x1.size : Int) then
  (0 ≤ x85 ∧ x85 < (x1.size : Int)) ∧
  if w64 (bt x1 x85) = 34 then
   trellisref15_Quoted_j2 x80 x1 x85 true o1
  else
   trellisref15_Quoted_j2 x80 x1 x85 ((w64 (bt x1 x85)) == 92) o1
 else
  ∃ x231 : List Int, (x231 = x80 ++ ([34] : List Int)) ∧
  (x231.length * 1 ≤ 211106232532992) ∧
  o1 = .inr (ofBs x231)
def trellisref15_Quoted (x1 : ByteArray) (r : ByteArray) : Prop :=
 Rounds (fun (s : (List Int) × Int) o => trellisref15_Quoted_b1 x1 s.1 s.2 o) (([34] : List Int), 0) r
def trellisref15_text_b4 (x1 : trellisref15_Tree) (rc_trellisref15_text : trellisref15_Tree → ByteArray → Prop) (x51 : ByteArray) (x52 : Int) (o1 : Sum (ByteArray × Int) ByteArray) : Prop :=
 if x52 < (x1.kids.length : Int) then
  (0 ≤ x52 ∧ x52 < (x1.kids.length : Int)) ∧
  ∃ r85 : ByteArray, (rc_trellisref15_text (ix x1.kids x52) r85) ∧
  (x51.size + (⟨#[32]⟩ : ByteArray).size ≤ 9223372036854775807) ∧
  ((x51 ++ (⟨#[32]⟩ : ByteArray)).size + r85.size ≤ 9223372036854775807) ∧
  o1 = .inl ((x51 ++ (⟨#[32]⟩ : ByteArray)) ++ r85, w64 (x52 + 1))
 else
  (x51.size + (⟨#[41]⟩ : ByteArray).size ≤ 9223372036854775807) ∧
  o1 = .inr (x51 ++ (⟨#[41]⟩ : ByteArray))
def trellisref15_text_j3 (x11 : ByteArray) (x22 : ByteArray) (x1 : trellisref15_Tree) (rc_trellisref15_text : trellisref15_Tree → ByteArray → Prop) (x25 : Bool) (r : ByteArray) : Prop :=
 if x25 = true then
  (x11.size + x22.size ≤ 9223372036854775807) ∧
  r = x11 ++ x22
 else
  (x11.size + (⟨#[40]⟩ : ByteArray).size ≤ 9223372036854775807) ∧
  ((x11 ++ (⟨#[40]⟩ : ByteArray)).size + x22.size ≤ 9223372036854775807) ∧
  Rounds (fun (s : ByteArray × Int) o => trellisref15_text_b4 x1 rc_trellisref15_text s.1 s.2 o) ((x11 ++ (⟨#[40]⟩ : ByteArray)) ++ x22, 0) r
def trellisref15_text_j2 (x1 : trellisref15_Tree) (x11 : ByteArray) (rc_trellisref15_text : trellisref15_Tree → ByteArray → Prop) (x22 : ByteArray) (r : ByteArray) : Prop :=
 if x1.node.named = true then
  trellisref15_text_j3 x11 x22 x1 rc_trellisref15_text false r
 else
  trellisref15_text_j3 x11 x22 x1 rc_trellisref15_text ((x1.kids.length : Int) == 0) r
def trellisref15_text_j1 (x1 : trellisref15_Tree) (rc_trellisref15_text : trellisref15_Tree → ByteArray → Prop) (x11 : ByteArray) (r : ByteArray) : Prop :=
 if x1.node.named = true then
  trellisref15_text_j2 x1 x11 rc_trellisref15_text x1.node.name r
 else
  ∃ r97 : ByteArray, (trellisref15_Quoted x1.node.name r97) ∧
  trellisref15_text_j2 x1 x11 rc_trellisref15_text r97 r
def trellisref15_text_body (rc_trellisref15_text : trellisref15_Tree → ByteArray → Prop) (x1 : trellisref15_Tree) (r : ByteArray) : Prop :=
 if x1.node.field = (⟨#[]⟩ : ByteArray) then
  trellisref15_text_j1 x1 rc_trellisref15_text (⟨#[]⟩ : ByteArray) r
 else
  (x1.node.field.size + (⟨#[58, 32]⟩ : ByteArray).size ≤ 9223372036854775807) ∧
  trellisref15_text_j1 x1 rc_trellisref15_text (x1.node.field ++ (⟨#[58, 32]⟩ : ByteArray)) r
def trellisref15_text_n : Nat → trellisref15_Tree → ByteArray → Prop
 | 0 => fun _ _ => False
 | n + 1 => trellisref15_text_body (trellisref15_text_n n)
def trellisref15_text (x1 : trellisref15_Tree) (r : ByteArray) : Prop := ∃ n, trellisref15_text_n n x1 r
def trellisref15_Text_b1 (r9 : (List trellisref15_Tree) × Bool) (x43 : ByteArray) (x44 : Int) (o1 : Sum (ByteArray × Int) ByteArray) : Prop :=
 if x44 < (r9.1.length : Int) then
  (0 ≤ x44 ∧ x44 < (r9.1.length : Int)) ∧
  ∃ r80 : ByteArray, (trellisref15_text (ix r9.1 x44) r80) ∧
  if x44 > 0 then
   (x43.size + (⟨#[32]⟩ : ByteArray).size ≤ 9223372036854775807) ∧
   ((x43 ++ (⟨#[32]⟩ : ByteArray)).size + r80.size ≤ 9223372036854775807) ∧
   o1 = .inl ((x43 ++ (⟨#[32]⟩ : ByteArray)) ++ r80, w64 (x44 + 1))
  else
   (x43.size + r80.size ≤ 9223372036854775807) ∧
   o1 = .inl (x43 ++ r80, w64 (x44 + 1))
 else
  o1 = .inr (x43)
def trellisref15_Text (x1 : List api_Node) (r : ByteArray) : Prop :=
 ∃ r9 : (List trellisref15_Tree) × Bool, (trellisref15_Forest x1 r9) ∧
 Rounds (fun (s : ByteArray × Int) o => trellisref15_Text_b1 r9 s.1 s.2 o) ((⟨#[]⟩ : ByteArray), 0) r
def trellislaw15_finds_j6 (x1 : List api_Node) (k6 : Nat) (x14 : Int) (x9 : List api_Node) (x4902 : Bool) (o3 : Sum ((List Int) × (List Int) × Int) (Sum ((List Int) × Int) (Sum ((List Int) × Int) Bool))) : Prop :=
 if x4902 = true then
  o3 = .inr (.inr (.inr (false)))
 else
  ∃ r4907 : Int, (tree_Roots (x1.take k6) r4907) ∧
  ∃ r4915 : Int, (tree_Size (x1.take k6) x14 r4915) ∧
  ∃ r4923 : Int, (tree_Parent (x1.take k6) x14 r4923) ∧
  ∃ r4931 : ByteArray, (tree_Text (x1.take k6) r4931) ∧
  ∃ r4939 : Int, (trellisref15_Roots x9 r4939) ∧
  if r4907 = r4939 then
   ∃ r4948 : Int, (trellisref15_Size x9 x14 r4948) ∧
   if r4915 = r4948 then
    ∃ r4957 : Int, (trellisref15_Parent x9 x14 r4957) ∧
    if r4923 = r4957 then
     ∃ r4966 : ByteArray, (trellisref15_Text x9 r4966) ∧
     if r4931 = r4966 then
      ∃ r4975 : Bool, (trellislaw15_stays x1 k6 x9 r4975) ∧
      o3 = .inr (.inr (.inr (r4975)))
     else
      o3 = .inr (.inr (.inr (false)))
    else
     o3 = .inr (.inr (.inr (false)))
   else
    o3 = .inr (.inr (.inr (false)))
  else
   o3 = .inr (.inr (.inr (false)))
def trellislaw15_finds_j5 (x1 : List api_Node) (k6 : Nat) (x14 : Int) (r18 : List Int) (r31 : List Int) (x1765 : List Int) (x4523 : List Int) (x3947 : List Int) (x4532 : List Int) (x9 : List api_Node) (x4838 : Bool) (o3 : Sum ((List Int) × (List Int) × Int) (Sum ((List Int) × Int) (Sum ((List Int) × Int) Bool))) : Prop :=
 if x4838 = true then
  o3 = .inr (.inr (.inr (false)))
 else
  ∃ r4843 : List Int, (tree_Kids (x1.take k6) x14 r4843) ∧
  ∃ r4856 : List Int, (tree_Path (x1.take k6) x14 r4856) ∧
  ∃ r4983 : Bool, (trellislaw15_sameInts r4843 r18 r4983) ∧
  if r4983 = true then
   ∃ r4992 : Bool, (trellislaw15_sameInts r4856 r31 r4992) ∧
   if r4992 = true then
    ∃ r5001 : Bool, (trellislaw15_marked x1765 x4523 (-7) (-9) r5001) ∧
    if r5001 = true then
     ∃ r5010 : Bool, (trellislaw15_marked x3947 x4532 (-8) (-10) r5010) ∧
     trellislaw15_finds_j6 x1 k6 x14 x9 (!r5010) o3
    else
     trellislaw15_finds_j6 x1 k6 x14 x9 true o3
   else
    trellislaw15_finds_j6 x1 k6 x14 x9 true o3
  else
   trellislaw15_finds_j6 x1 k6 x14 x9 true o3
def trellislaw15_finds_b4 (r71 : List Int) (r18 : List Int) (r84 : List Int) (r31 : List Int) (x1 : List api_Node) (k6 : Nat) (x14 : Int) (x1765 : List Int) (x3947 : List Int) (x9 : List api_Node) (x4523 : List Int) (x4532 : List Int) (x4541 : Int) (o3 : Sum ((List Int) × (List Int) × Int) (Sum ((List Int) × Int) (Sum ((List Int) × Int) Bool))) : Prop :=
 if x4541 < 70 then
  ∃ x4797 : List Int, (x4797 = x4523 ++ ([-9] : List Int)) ∧
  (x4797.length * 8 ≤ 211106232532992) ∧
  ∃ x4809 : List Int, (x4809 = x4532 ++ ([-10] : List Int)) ∧
  (x4809.length * 8 ≤ 211106232532992) ∧
  o3 = .inl (x4797, x4809, w64 (x4541 + 1))
 else
  ∃ r5018 : Bool, (trellislaw15_sameInts r71 r18 r5018) ∧
  if r5018 = true then
   ∃ r5027 : Bool, (trellislaw15_sameInts r84 r31 r5027) ∧
   trellislaw15_finds_j5 x1 k6 x14 r18 r31 x1765 x4523 x3947 x4532 x9 (!r5027) o3
  else
   trellislaw15_finds_j5 x1 k6 x14 r18 r31 x1765 x4523 x3947 x4532 x9 true o3
def trellislaw15_finds_b3 (r71 : List Int) (r18 : List Int) (r84 : List Int) (r31 : List Int) (x1 : List api_Node) (k6 : Nat) (x14 : Int) (x1765 : List Int) (x9 : List api_Node) (x3947 : List Int) (x3949 : Int) (o2 : Sum ((List Int) × Int) (Sum ((List Int) × Int) Bool)) : Prop :=
 if x3949 < (x3947.length : Int) then
  (0 ≤ x3949 ∧ x3949 < (x3947.length : Int)) ∧
  ∃ x4493 : List Int, (x4493 = x3947.set (x3949 : Int).toNat (-8)) ∧
  o2 = .inl (x4493, w64 (x3949 + 1))
 else
  Rounds (fun (s : (List Int) × (List Int) × Int) o => trellislaw15_finds_b4 r71 r18 r84 r31 x1 k6 x14 x1765 x3947 x9 s.1 s.2.1 s.2.2 o) (x1765, x3947, 0) o2
def trellislaw15_finds_b2 (r71 : List Int) (r18 : List Int) (r84 : List Int) (r31 : List Int) (x1 : List api_Node) (k6 : Nat) (x14 : Int) (x9 : List api_Node) (r57 : List Int) (x1765 : List Int) (x1767 : Int) (o1 : Sum ((List Int) × Int) Bool) : Prop :=
 if x1767 < (x1765.length : Int) then
  (0 ≤ x1767 ∧ x1767 < (x1765.length : Int)) ∧
  ∃ x3402 : List Int, (x3402 = x1765.set (x1767 : Int).toNat (-7)) ∧
  o1 = .inl (x3402, w64 (x1767 + 1))
 else
  Rounds (fun (s : (List Int) × Int) o => trellislaw15_finds_b3 r71 r18 r84 r31 x1 k6 x14 x1765 x9 s.1 s.2 o) (r57, 0) o1
def trellislaw15_finds_j1 (r71 : List Int) (r18 : List Int) (r84 : List Int) (r31 : List Int) (x1 : List api_Node) (k6 : Nat) (x14 : Int) (x9 : List api_Node) (r57 : List Int) (r44 : List Int) (x130 : Bool) (r : Bool) : Prop :=
 if x130 = true then
  r = false
 else
  Rounds (fun (s : (List Int) × Int) o => trellislaw15_finds_b2 r71 r18 r84 r31 x1 k6 x14 x9 r57 s.1 s.2 o) (r44, 0) r
def trellislaw15_finds (x1 : List api_Node) (k6 : Nat) (x9 : List api_Node) (x14 : Int) (r : Bool) : Prop :=
 ∃ r18 : List Int, (trellisref15_Kids x9 x14 r18) ∧
 ∃ r31 : List Int, (trellisref15_Path x9 x14 r31) ∧
 ∃ r44 : List Int, (tree_Kids (x1.take k6) x14 r44) ∧
 ∃ r57 : List Int, (tree_Path (x1.take k6) x14 r57) ∧
 ∃ r71 : List Int, (tree_Kids (x1.take k6) x14 r71) ∧
 ∃ r84 : List Int, (tree_Path (x1.take k6) x14 r84) ∧
 ∃ r5035 : Bool, (trellislaw15_sameInts r44 r18 r5035) ∧
 if r5035 = true then
  ∃ r5044 : Bool, (trellislaw15_sameInts r57 r31 r5044) ∧
  if r5044 = true then
   ∃ r5053 : Bool, (trellislaw15_sameInts r71 r18 r5053) ∧
   if r5053 = true then
    ∃ r5062 : Bool, (trellislaw15_sameInts r84 r31 r5062) ∧
    trellislaw15_finds_j1 r71 r18 r84 r31 x1 k6 x14 x9 r57 r44 (!r5062) r
   else
    trellislaw15_finds_j1 r71 r18 r84 r31 x1 k6 x14 x9 r57 r44 true r
  else
   trellislaw15_finds_j1 r71 r18 r84 r31 x1 k6 x14 x9 r57 r44 true r
 else
  trellislaw15_finds_j1 r71 r18 r84 r31 x1 k6 x14 x9 r57 r44 true r
def trellislaw15_alive  (r : Bool) : Prop :=
 ∃ r31 : List api_Node, (tree_Token (⟨(⟨#[]⟩ : ByteArray), ([] : List api_ModeDef), (⟨([(⟨(⟨#[]⟩ : ByteArray), false⟩ : api_TermDef), (⟨(⟨#[97]⟩ : ByteArray), false⟩ : api_TermDef)] : List api_TermDef), ([(⟨(⟨#[115]⟩ : ByteArray), 1⟩ : api_Sym)] : List api_Sym), ([(⟨-1, ([(⟨2, (⟨#[]⟩ : ByteArray), (⟨#[]⟩ : ByteArray)⟩ : api_Ref)] : List api_Ref)⟩ : api_Prod), (⟨0, ([(⟨1, (⟨#[102]⟩ : ByteArray), (⟨#[]⟩ : ByteArray)⟩ : api_Ref)] : List api_Ref)⟩ : api_Prod)] : List api_Prod)⟩ : api_Gram), ([] : List api_Rule), (⟨([] : List (List api_Action)), ([] : List (List Int))⟩ : api_Table), ([] : List api_PaintDef), ([] : List ByteArray), ([] : List api_MarkDef), ([] : List api_InjectDef)⟩ : api_Lang) 1 0 2 5 r31) ∧
 ∃ r54 : List api_Node, (tree_Reduce (⟨(⟨#[]⟩ : ByteArray), ([] : List api_ModeDef), (⟨([(⟨(⟨#[]⟩ : ByteArray), false⟩ : api_TermDef), (⟨(⟨#[97]⟩ : ByteArray), false⟩ : api_TermDef)] : List api_TermDef), ([(⟨(⟨#[115]⟩ : ByteArray), 1⟩ : api_Sym)] : List api_Sym), ([(⟨-1, ([(⟨2, (⟨#[]⟩ : ByteArray), (⟨#[]⟩ : ByteArray)⟩ : api_Ref)] : List api_Ref)⟩ : api_Prod), (⟨0, ([(⟨1, (⟨#[102]⟩ : ByteArray), (⟨#[]⟩ : ByteArray)⟩ : api_Ref)] : List api_Ref)⟩ : api_Prod)] : List api_Prod)⟩ : api_Gram), ([] : List api_Rule), (⟨([] : List (List api_Action)), ([] : List (List Int))⟩ : api_Table), ([] : List api_PaintDef), ([] : List ByteArray), ([] : List api_MarkDef), ([] : List api_InjectDef)⟩ : api_Lang) 1 ([r31] : List (List api_Node)) ([0, 5] : List Int) r54) ∧
 ∃ r68 : List Int, (tree_Kids r54 0 r68) ∧
 ∃ r81 : ByteArray, (tree_Text r54 r81) ∧
 if (r31.length : Int) = 1 then
  if (r54.length : Int) = 2 then
   (0 ≤ (0 : Int) ∧ (0 : Int) < (r54.length : Int)) ∧
   if (ix r54 0).from_ = 2 then
    if (ix r54 0).to = 5 then
     if (ix r54 0).kids = 1 then
      if (ix r54 0).leaf = -1 then
       if (r68.length : Int) = 1 then
        (0 ≤ (0 : Int) ∧ (0 : Int) < (r68.length : Int)) ∧
        if ix r68 0 = 1 then
         if r81 = (⟨#[40, 115, 32, 102, 58, 32, 40, 97, 41, 41]⟩ : ByteArray) then
          ∃ r100 : Int, (tree_Roots r54 r100) ∧
          r = (r100 == 1)
         else
          r = false
        else
         r = false
       else
        r = false
      else
       r = false
     else
      r = false
    else
     r = false
   else
    r = false
  else
   r = false
 else
  r = false
def trellislaw15_made_j3 (x638 : List trellislaw15_Made) (x647 : List api_Node) (x652 : Int) (x653 : Int) (x1 : api_Lang) (x46 : List trellislaw15_Op) (x2215 : Bool) (o1 : Sum ((List trellislaw15_Made) × (List api_Node) × Int × Int) ((List trellislaw15_Made) × (List api_Node) × Bool)) : Prop :=
 if x2215 = true then
  o1 = .inl (x638, x647, x652, w64 (x653 + 1))
 else
  ∃ r2220 : List api_Node, (tree_Token x1 (w64 ((w64 (0 - (w64 (((ix x46 x653).n) + 1)))) + 1)) (x647.length : Int) (w64 (x652 + ((ix x46 x653).pad))) (w64 ((w64 (x652 + ((ix x46 x653).pad))) + ((ix x46 x653).len))) r2220) ∧
  if (r2220.length : Int) = 1 then
   (0 ≤ (0 : Int) ∧ (0 : Int) < (r2220.length : Int)) ∧
   ∃ x2238 : List api_Node, (x2238 = x647 ++ ([ix r2220 0] : List api_Node)) ∧
   (x2238.length * 72 ≤ 211106232532992) ∧
   ∃ x2254 : List trellislaw15_Made, (x2254 = x638 ++ ([(⟨w64 ((w64 (0 - (w64 (((ix x46 x653).n) + 1)))) + 1), r2220, w64 ((w64 (x652 + ((ix x46 x653).pad))) + ((ix x46 x653).len))⟩ : trellislaw15_Made)] : List trellislaw15_Made)) ∧
   (x2254.length * 40 ≤ 211106232532992) ∧
   o1 = .inl (x2254, x2238, w64 ((w64 (x652 + ((ix x46 x653).pad))) + ((ix x46 x653).len)), w64 (x653 + 1))
  else
   o1 = .inr ((([] : List trellislaw15_Made), ([] : List api_Node), false))
def trellislaw15_made_b7 (x1 : api_Lang) (x46 : List trellislaw15_Op) (x653 : Int) (x638 : List trellislaw15_Made) (x647 : List api_Node) (x652 : Int) (x3382 : List Int) (x3387 : List (List api_Node)) (x3396 : Int) (o3 : Sum ((List Int) × (List (List api_Node)) × Int) (Sum (Bool × Int) (Sum ((List trellislaw15_Made) × (List api_Node) × Int × Int) ((List trellislaw15_Made) × (List api_Node) × Bool)))) : Prop :=
 if x3396 < (((ix x1.gram.prods ((ix x46 x653).n)).rhs).length : Int) then
  (0 ≤ w64 ((w64 ((x638.length : Int) - (((ix x1.gram.prods ((ix x46 x653).n)).rhs).length : Int))) + x3396) ∧ w64 ((w64 ((x638.length : Int) - (((ix x1.gram.prods ((ix x46 x653).n)).rhs).length : Int))) + x3396) < (x638.length : Int)) ∧
  ∃ x3580 : List (List api_Node), (x3580 = x3387 ++ ([(ix x638 (w64 ((w64 ((x638.length : Int) - (((ix x1.gram.prods ((ix x46 x653).n)).rhs).length : Int))) + x3396))).t] : List (List api_Node))) ∧
  (x3580.length * 24 ≤ 211106232532992) ∧
  ∃ x3600 : List Int, (x3600 = x3382 ++ ([(ix x638 (w64 ((w64 ((x638.length : Int) - (((ix x1.gram.prods ((ix x46 x653).n)).rhs).length : Int))) + x3396))).ends] : List Int)) ∧
  (x3600.length * 8 ≤ 211106232532992) ∧
  o3 = .inl (x3600, x3580, w64 (x3396 + 1))
 else
  ∃ r3606 : List api_Node, (tree_Reduce x1 ((ix x46 x653).n) x3387 x3382 r3606) ∧
  (0 ≤ (0 : Int) ∧ (0 : Int) ≤ w64 ((x638.length : Int) - (((ix x1.gram.prods ((ix x46 x653).n)).rhs).length : Int)) ∧ w64 ((x638.length : Int) - (((ix x1.gram.prods ((ix x46 x653).n)).rhs).length : Int)) ≤ (x638.length : Int)) ∧
  ∃ x3618 : List trellislaw15_Made, (x3618 = x638.take (w64 ((x638.length : Int) - (((ix x1.gram.prods ((ix x46 x653).n)).rhs).length : Int)) : Int).toNat) ∧
  ∃ x3629 : List trellislaw15_Made, (x3629 = ([] : List trellislaw15_Made) ++ x3618) ∧
  (x3629.length * 40 ≤ 211106232532992) ∧
  (0 ≤ (((ix x1.gram.prods ((ix x46 x653).n)).rhs).length : Int) ∧ (((ix x1.gram.prods ((ix x46 x653).n)).rhs).length : Int) < (x3382.length : Int)) ∧
  ∃ x3667 : List trellislaw15_Made, (x3667 = x3629 ++ ([(⟨w64 (((ix x1.gram.prods ((ix x46 x653).n)).lhs) + (x1.gram.terms.length : Int)), r3606, ix x3382 (((ix x1.gram.prods ((ix x46 x653).n)).rhs).length : Int)⟩ : trellislaw15_Made)] : List trellislaw15_Made)) ∧
  (x3667.length * 40 ≤ 211106232532992) ∧
  o3 = .inr (.inr (.inl (x3667, x647, x652, w64 (x653 + 1))))
def trellislaw15_made_j6 (x1 : api_Lang) (x46 : List trellislaw15_Op) (x653 : Int) (x638 : List trellislaw15_Made) (x647 : List api_Node) (x652 : Int) (x3215 : List Int) (o2 : Sum (Bool × Int) (Sum ((List trellislaw15_Made) × (List api_Node) × Int × Int) ((List trellislaw15_Made) × (List api_Node) × Bool))) : Prop :=
 Rounds (fun (s : (List Int) × (List (List api_Node)) × Int) o => trellislaw15_made_b7 x1 x46 x653 x638 x647 x652 s.1 s.2.1 s.2.2 o) (x3215, ([] : List (List api_Node)), 0) o2
def trellislaw15_made_b5 (x1 : api_Lang) (x46 : List trellislaw15_Op) (x653 : Int) (x638 : List trellislaw15_Made) (x647 : List api_Node) (x652 : Int) (x2592 : Bool) (x2593 : Int) (o2 : Sum (Bool × Int) (Sum ((List trellislaw15_Made) × (List api_Node) × Int × Int) ((List trellislaw15_Made) × (List api_Node) × Bool))) : Prop :=
 if x2593 < (((ix x1.gram.prods ((ix x46 x653).n)).rhs).length : Int) then
  if x2592 = true then
   (0 ≤ w64 ((w64 ((x638.length : Int) - (((ix x1.gram.prods ((ix x46 x653).n)).rhs).length : Int))) + x2593) ∧ w64 ((w64 ((x638.length : Int) - (((ix x1.gram.prods ((ix x46 x653).n)).rhs).length : Int))) + x2593) < (x638.length : Int)) ∧
   (0 ≤ x2593 ∧ x2593 < (((ix x1.gram.prods ((ix x46 x653).n)).rhs).length : Int)) ∧
   o2 = .inl ((((ix x638 (w64 ((w64 ((x638.length : Int) - (((ix x1.gram.prods ((ix x46 x653).n)).rhs).length : Int))) + x2593))).sym) == ((ix ((ix x1.gram.prods ((ix x46 x653).n)).rhs) x2593).sym)), w64 (x2593 + 1))
  else
   o2 = .inr (.inl (x638, x647, x652, w64 (x653 + 1)))
 else
  if x2592 = true then
   if w64 ((x638.length : Int) - (((ix x1.gram.prods ((ix x46 x653).n)).rhs).length : Int)) > 0 then
    (0 ≤ w64 ((w64 ((x638.length : Int) - (((ix x1.gram.prods ((ix x46 x653).n)).rhs).length : Int))) - 1) ∧ w64 ((w64 ((x638.length : Int) - (((ix x1.gram.prods ((ix x46 x653).n)).rhs).length : Int))) - 1) < (x638.length : Int)) ∧
    (0 ≤ (0 : Int) ∧ (0 : Int) < (([0] : List Int).length : Int)) ∧
    ∃ x3733 : List Int, (x3733 = ([0] : List Int).set (0 : Int).toNat ((ix x638 (w64 ((w64 ((x638.length : Int) - (((ix x1.gram.prods ((ix x46 x653).n)).rhs).length : Int))) - 1))).ends)) ∧
    trellislaw15_made_j6 x1 x46 x653 x638 x647 x652 x3733 o2
   else
    trellislaw15_made_j6 x1 x46 x653 x638 x647 x652 ([0] : List Int) o2
  else
   o2 = .inr (.inl (x638, x647, x652, w64 (x653 + 1)))
def trellislaw15_made_j4 (x638 : List trellislaw15_Made) (x647 : List api_Node) (x652 : Int) (x653 : Int) (x46 : List trellislaw15_Op) (x1 : api_Lang) (x2275 : Bool) (o1 : Sum ((List trellislaw15_Made) × (List api_Node) × Int × Int) ((List trellislaw15_Made) × (List api_Node) × Bool)) : Prop :=
 if x2275 = true then
  o1 = .inl (x638, x647, x652, w64 (x653 + 1))
 else
  (0 ≤ (ix x46 x653).n ∧ (ix x46 x653).n < (x1.gram.prods.length : Int)) ∧
  Rounds (fun (s : Bool × Int) o => trellislaw15_made_b5 x1 x46 x653 x638 x647 x652 s.1 s.2 o) (decide (w64 ((x638.length : Int) - (((ix x1.gram.prods ((ix x46 x653).n)).rhs).length : Int)) ≥ 0), 0) o1
def trellislaw15_made_j2 (x653 : Int) (x46 : List trellislaw15_Op) (x638 : List trellislaw15_Made) (x647 : List api_Node) (x652 : Int) (x1 : api_Lang) (x2202 : Bool) (o1 : Sum ((List trellislaw15_Made) × (List api_Node) × Int × Int) ((List trellislaw15_Made) × (List api_Node) × Bool)) : Prop :=
 if x2202 = true then
  (0 ≤ x653 ∧ x653 < (x46.length : Int)) ∧
  if (ix x46 x653).n < 0 then
   if w64 ((w64 (0 - (w64 (((ix x46 x653).n) + 1)))) + 1) < 1 then
    trellislaw15_made_j3 x638 x647 x652 x653 x1 x46 true o1
   else
    if w64 ((w64 (0 - (w64 (((ix x46 x653).n) + 1)))) + 1) ≥ (x1.gram.terms.length : Int) then
     trellislaw15_made_j3 x638 x647 x652 x653 x1 x46 true o1
    else
     if (ix x46 x653).pad < 0 then
      trellislaw15_made_j3 x638 x647 x652 x653 x1 x46 true o1
     else
      if (ix x46 x653).pad > 1048576 then
       trellislaw15_made_j3 x638 x647 x652 x653 x1 x46 true o1
      else
       if (ix x46 x653).len < 0 then
        trellislaw15_made_j3 x638 x647 x652 x653 x1 x46 true o1
       else
        trellislaw15_made_j3 x638 x647 x652 x653 x1 x46 (decide ((ix x46 x653).len > 1048576)) o1
  else
   if (ix x46 x653).n ≥ (x1.gram.prods.length : Int) then
    trellislaw15_made_j4 x638 x647 x652 x653 x46 x1 true o1
   else
    (0 ≤ (ix x46 x653).n ∧ (ix x46 x653).n < (x1.gram.prods.length : Int)) ∧
    trellislaw15_made_j4 x638 x647 x652 x653 x46 x1 (decide ((ix x1.gram.prods ((ix x46 x653).n)).lhs < 0)) o1
 else
  o1 = .inr ((x638, x647, true))
def trellislaw15_made_b1 (x46 : List trellislaw15_Op) (x1 : api_Lang) (x638 : List trellislaw15_Made) (x647 : List api_Node) (x652 : Int) (x653 : Int) (o1 : Sum ((List trellislaw15_Made) × (List api_Node) × Int × Int) ((List trellislaw15_Made) × (List api_Node) × Bool)) : Prop :=
 if x653 < (x46.length : Int) then
  trellislaw15_made_j2 x653 x46 x638 x647 x652 x1 (decide (x653 < 65536)) o1
 else
  trellislaw15_made_j2 x653 x46 x638 x647 x652 x1 false o1
def trellislaw15_made (x1 : api_Lang) (x46 : List trellislaw15_Op) (r : (List trellislaw15_Made) × (List api_Node) × Bool) : Prop :=
 Rounds (fun (s : (List trellislaw15_Made) × (List api_Node) × Int × Int) o => trellislaw15_made_b1 x46 x1 s.1 s.2.1 s.2.2.1 s.2.2.2 o) (([] : List trellislaw15_Made), ([] : List api_Node), 0, 0) r
def trellislaw15_nested_b3 (r2589 : List Int) (x1 : List api_Node) (x1273 : Int) (x2585 : Int) (x2814 : Int) (o2 : Sum Int (Sum (Int × Int) Bool)) : Prop :=
 if x2814 < (r2589.length : Int) then
  (0 ≤ x2814 ∧ x2814 < (r2589.length : Int)) ∧
  (0 ≤ ix r2589 x2814 ∧ ix r2589 x2814 < (x1.length : Int)) ∧
  ∃ r3332 : Int, (tree_Parent x1 (ix r2589 x2814) r3332) ∧
  if r3332 = x1273 then
   if x2814 = 0 then
    if (ix x1 (ix r2589 x2814)).from_ = (ix x1 x1273).from_ then
     if x2814 = w64 ((r2589.length : Int) - 1) then
      if (ix x1 (ix r2589 x2814)).to = (ix x1 x1273).to then
       if x2814 > 0 then
        (0 ≤ w64 (x2814 - 1) ∧ w64 (x2814 - 1) < (r2589.length : Int)) ∧
        (0 ≤ ix r2589 (w64 (x2814 - 1)) ∧ ix r2589 (w64 (x2814 - 1)) < (x1.length : Int)) ∧
        if (ix x1 (ix r2589 (w64 (x2814 - 1)))).to > (ix x1 (ix r2589 x2814)).from_ then
         o2 = .inr (.inr (false))
        else
         o2 = .inl (w64 (x2814 + 1))
       else
        o2 = .inl (w64 (x2814 + 1))
      else
       o2 = .inr (.inr (false))
     else
      if x2814 > 0 then
       (0 ≤ w64 (x2814 - 1) ∧ w64 (x2814 - 1) < (r2589.length : Int)) ∧
       (0 ≤ ix r2589 (w64 (x2814 - 1)) ∧ ix r2589 (w64 (x2814 - 1)) < (x1.length : Int)) ∧
       if (ix x1 (ix r2589 (w64 (x2814 - 1)))).to > (ix x1 (ix r2589 x2814)).from_ then
        o2 = .inr (.inr (false))
       else
        o2 = .inl (w64 (x2814 + 1))
      else
       o2 = .inl (w64 (x2814 + 1))
    else
     o2 = .inr (.inr (false))
   else
    if x2814 = w64 ((r2589.length : Int) - 1) then
     if (ix x1 (ix r2589 x2814)).to = (ix x1 x1273).to then
      if x2814 > 0 then
       (0 ≤ w64 (x2814 - 1) ∧ w64 (x2814 - 1) < (r2589.length : Int)) ∧
       (0 ≤ ix r2589 (w64 (x2814 - 1)) ∧ ix r2589 (w64 (x2814 - 1)) < (x1.length : Int)) ∧
       if (ix x1 (ix r2589 (w64 (x2814 - 1)))).to > (ix x1 (ix r2589 x2814)).from_ then
        o2 = .inr (.inr (false))
       else
        o2 = .inl (w64 (x2814 + 1))
      else
       o2 = .inl (w64 (x2814 + 1))
     else
      o2 = .inr (.inr (false))
    else
     if x2814 > 0 then
      (0 ≤ w64 (x2814 - 1) ∧ w64 (x2814 - 1) < (r2589.length : Int)) ∧
      (0 ≤ ix r2589 (w64 (x2814 - 1)) ∧ ix r2589 (w64 (x2814 - 1)) < (x1.length : Int)) ∧
      if (ix x1 (ix r2589 (w64 (x2814 - 1)))).to > (ix x1 (ix r2589 x2814)).from_ then
       o2 = .inr (.inr (false))
      else
       o2 = .inl (w64 (x2814 + 1))
     else
      o2 = .inl (w64 (x2814 + 1))
  else
   o2 = .inr (.inr (false))
 else
  o2 = .inr (.inl (x2585, w64 (x1273 + 1)))
def trellislaw15_nested_j2 (x1 : List api_Node) (x1273 : Int) (x2585 : Int) (o1 : Sum (Int × Int) Bool) : Prop :=
 ∃ r2589 : List Int, (tree_Kids x1 x1273 r2589) ∧
 if (r2589.length : Int) = (ix x1 x1273).kids then
  Rounds (fun (s : Int) o => trellislaw15_nested_b3 r2589 x1 x1273 x2585 s o) 0 o1
 else
  o1 = .inr (false)
def trellislaw15_nested_b1 (x1 : List api_Node) (x1272 : Int) (x1273 : Int) (o1 : Sum (Int × Int) Bool) : Prop :=
 if x1273 < (x1.length : Int) then
  (0 ≤ x1273 ∧ x1273 < (x1.length : Int)) ∧
  if (ix x1 x1273).from_ > (ix x1 x1273).to then
   o1 = .inr (false)
  else
   ∃ r2569 : Int, (tree_Parent x1 x1273 r2569) ∧
   if r2569 = -1 then
    if x1272 ≥ 0 then
     (0 ≤ x1272 ∧ x1272 < (x1.length : Int)) ∧
     if (ix x1 x1272).to > (ix x1 x1273).from_ then
      o1 = .inr (false)
     else
      trellislaw15_nested_j2 x1 x1273 x1273 o1
    else
     trellislaw15_nested_j2 x1 x1273 x1273 o1
   else
    trellislaw15_nested_j2 x1 x1273 x1272 o1
 else
  o1 = .inr (true)
def trellislaw15_nested (x1 : List api_Node) (r : Bool) : Prop :=
 Rounds (fun (s : Int × Int) o => trellislaw15_nested_b1 x1 s.1 s.2 o) (-1, 0) r
def trellislaw15_TreeGrows_b6 (r2838 : (List trellislaw15_Made) × (List api_Node) × Bool) (x3304 : Int) (x3944 : Int) (x4130 : Int) (o4 : Sum Int (Sum (Int × Int) (Sum (Int × Int) (Sum Int Bool)))) : Prop :=
 if x4130 < (ix ((ix r2838.1 x3304).t) x3944).leaf then
  (0 ≤ x4130 ∧ x4130 < (r2838.2.1.length : Int)) ∧
  if (ix r2838.2.1 x4130).name = (⟨#[]⟩ : ByteArray) then
   o4 = .inr (.inr (.inr (.inr (false))))
  else
   (0 ≤ (0 : Int) ∧ (0 : Int) < (((ix r2838.2.1 x4130).name).size : Int)) ∧
   if bt ((ix r2838.2.1 x4130).name) 0 = 95 then
    o4 = .inl (w64 (x4130 + 1))
   else
    o4 = .inr (.inr (.inr (.inr (false))))
 else
  o4 = .inr (.inl (w64 (x4130 + 1), w64 (x3944 + 1)))
def trellislaw15_TreeGrows_j5 (r2838 : (List trellislaw15_Made) × (List api_Node) × Bool) (x3304 : Int) (x3944 : Int) (x3943 : Int) (x4121 : Bool) (o3 : Sum (Int × Int) (Sum (Int × Int) (Sum Int Bool))) : Prop :=
 if x4121 = true then
  o3 = .inr (.inr (.inr (false)))
 else
  Rounds (fun (s : Int) o => trellislaw15_TreeGrows_b6 r2838 x3304 x3944 s o) x3943 o3
def trellislaw15_TreeGrows_b4 (r2838 : (List trellislaw15_Made) × (List api_Node) × Bool) (x3304 : Int) (x3943 : Int) (x3944 : Int) (o3 : Sum (Int × Int) (Sum (Int × Int) (Sum Int Bool))) : Prop :=
 if x3944 < (((ix r2838.1 x3304).t).length : Int) then
  (0 ≤ x3944 ∧ x3944 < (((ix r2838.1 x3304).t).length : Int)) ∧
  if (ix ((ix r2838.1 x3304).t) x3944).leaf < 0 then
   o3 = .inl (x3943, w64 (x3944 + 1))
  else
   if (ix ((ix r2838.1 x3304).t) x3944).leaf ≥ (r2838.2.1.length : Int) then
    trellislaw15_TreeGrows_j5 r2838 x3304 x3944 x3943 true o3
   else
    if (ix ((ix r2838.1 x3304).t) x3944).leaf < x3943 then
     trellislaw15_TreeGrows_j5 r2838 x3304 x3944 x3943 true o3
    else
     if (ix ((ix r2838.1 x3304).t) x3944).kids = 0 then
      (0 ≤ (ix ((ix r2838.1 x3304).t) x3944).leaf ∧ (ix ((ix r2838.1 x3304).t) x3944).leaf < (r2838.2.1.length : Int)) ∧
      if (ix ((ix r2838.1 x3304).t) x3944).from_ = (ix r2838.2.1 ((ix ((ix r2838.1 x3304).t) x3944).leaf)).from_ then
       trellislaw15_TreeGrows_j5 r2838 x3304 x3944 x3943 (((ix ((ix r2838.1 x3304).t) x3944).to) != ((ix r2838.2.1 ((ix ((ix r2838.1 x3304).t) x3944).leaf)).to)) o3
      else
       trellislaw15_TreeGrows_j5 r2838 x3304 x3944 x3943 true o3
     else
      trellislaw15_TreeGrows_j5 r2838 x3304 x3944 x3943 true o3
 else
  o3 = .inr (.inl (x3943, w64 (x3304 + 1)))
def trellislaw15_TreeGrows_j3 (r2838 : (List trellislaw15_Made) × (List api_Node) × Bool) (x3304 : Int) (x3303 : Int) (x3808 : Bool) (o2 : Sum (Int × Int) (Sum Int Bool)) : Prop :=
 if x3808 = true then
  o2 = .inr (.inr (false))
 else
  ∃ r3813 : Bool, (trellislaw15_nested ((ix r2838.1 x3304).t) r3813) ∧
  if r3813 = true then
   Rounds (fun (s : Int × Int) o => trellislaw15_TreeGrows_b4 r2838 x3304 s.1 s.2 o) (x3303, 0) o2
  else
   o2 = .inr (.inr (false))
def trellislaw15_TreeGrows_b7 (r2838 : (List trellislaw15_Made) × (List api_Node) × Bool) (x4202 : Int) (o3 : Sum Int (Sum (Int × Int) (Sum Int Bool))) : Prop :=
 if x4202 < (r2838.2.1.length : Int) then
  (0 ≤ x4202 ∧ x4202 < (r2838.2.1.length : Int)) ∧
  if (ix r2838.2.1 x4202).name = (⟨#[]⟩ : ByteArray) then
   o3 = .inr (.inr (.inr (false)))
  else
   (0 ≤ (0 : Int) ∧ (0 : Int) < (((ix r2838.2.1 x4202).name).size : Int)) ∧
   if bt ((ix r2838.2.1 x4202).name) 0 = 95 then
    o3 = .inl (w64 (x4202 + 1))
   else
    o3 = .inr (.inr (.inr (false)))
 else
  o3 = .inr (.inr (.inr (true)))
def trellislaw15_TreeGrows_b2 (r2838 : (List trellislaw15_Made) × (List api_Node) × Bool) (x1 : api_Lang) (x3303 : Int) (x3304 : Int) (o2 : Sum (Int × Int) (Sum Int Bool)) : Prop :=
 if x3304 < (r2838.1.length : Int) then
  (0 ≤ x3304 ∧ x3304 < (r2838.1.length : Int)) ∧
  ∃ r3772 : Int, (tree_Roots ((ix r2838.1 x3304).t) r3772) ∧
  if r3772 < 0 then
   o2 = .inr (.inr (false))
  else
   if w64 (((ix r2838.1 x3304).sym) - (x1.gram.terms.length : Int)) ≥ 0 then
    if w64 (((ix r2838.1 x3304).sym) - (x1.gram.terms.length : Int)) < (x1.gram.syms.length : Int) then
     (0 ≤ w64 (((ix r2838.1 x3304).sym) - (x1.gram.terms.length : Int)) ∧ w64 (((ix r2838.1 x3304).sym) - (x1.gram.terms.length : Int)) < (x1.gram.syms.length : Int)) ∧
     if (ix x1.gram.syms (w64 (((ix r2838.1 x3304).sym) - (x1.gram.terms.length : Int)))).kind = 1 then
      trellislaw15_TreeGrows_j3 r2838 x3304 x3303 (r3772 != 1) o2
     else
      trellislaw15_TreeGrows_j3 r2838 x3304 x3303 false o2
    else
     trellislaw15_TreeGrows_j3 r2838 x3304 x3303 false o2
   else
    trellislaw15_TreeGrows_j3 r2838 x3304 x3303 false o2
 else
  Rounds (fun (s : Int) o => trellislaw15_TreeGrows_b7 r2838 s o) x3303 o2
def trellislaw15_TreeGrows_b1 (x1 : api_Lang) (x46 : List trellislaw15_Op) (x1446 : Int) (o1 : Sum Int Bool) : Prop :=
 if x1446 < (x1.gram.syms.length : Int) then
  (0 ≤ x1446 ∧ x1446 < (x1.gram.syms.length : Int)) ∧
  if (ix x1.gram.syms x1446).kind < 1 then
   o1 = .inr (true)
  else
   if (ix x1.gram.syms x1446).kind > 3 then
    o1 = .inr (true)
   else
    o1 = .inl (w64 (x1446 + 1))
 else
  ∃ r2838 : (List trellislaw15_Made) × (List api_Node) × Bool, (trellislaw15_made x1 x46 r2838) ∧
  if r2838.2.2 = true then
   Rounds (fun (s : Int × Int) o => trellislaw15_TreeGrows_b2 r2838 x1 s.1 s.2 o) (0, 0) o1
  else
   o1 = .inr (false)
def trellislaw15_TreeGrows (x1 : api_Lang) (x46 : List trellislaw15_Op) (r : Bool) : Prop :=
 ∃ r56 : Bool, (trellislaw15_alive  r56) ∧
 if r56 = true then
  Rounds (fun (s : Int) o => trellislaw15_TreeGrows_b1 x1 x46 s o) 0 r
 else
  r = false
def trellislaw15_TreeCovers_j4 (x847 : Int) (r816 : List Int) (r66 : (List trellislaw15_Made) × (List api_Node) × Bool) (x351 : Int) (x868 : Int) (o3 : Sum Int (Sum ((List Int) × Int) (Sum Int Bool))) : Prop :=
 (0 ≤ x847 ∧ x847 < (r816.length : Int)) ∧
 ∃ r873 : Int, (tree_Parent ((ix r66.1 x351).t) (ix r816 x847) r873) ∧
 if r873 = x868 then
  o3 = .inl (w64 (x847 + 1))
 else
  o3 = .inr (.inr (.inr (false)))
def trellislaw15_TreeCovers_b3 (r816 : List Int) (r66 : (List trellislaw15_Made) × (List api_Node) × Bool) (x351 : Int) (x847 : Int) (o3 : Sum Int (Sum ((List Int) × Int) (Sum Int Bool))) : Prop :=
 if x847 < (r816.length : Int) then
  if x847 > 0 then
   (0 ≤ w64 (x847 - 1) ∧ w64 (x847 - 1) < (r816.length : Int)) ∧
   trellislaw15_TreeCovers_j4 x847 r816 r66 x351 (ix r816 (w64 (x847 - 1))) o3
  else
   trellislaw15_TreeCovers_j4 x847 r816 r66 x351 (-1) o3
 else
  o3 = .inr (.inr (.inl (w64 (x351 + 1))))
def trellislaw15_TreeCovers_b2 (r66 : (List trellislaw15_Made) × (List api_Node) × Bool) (x351 : Int) (x51 : Int) (x710 : List Int) (x715 : Int) (o2 : Sum ((List Int) × Int) (Sum Int Bool)) : Prop :=
 if x715 < (((ix r66.1 x351).t).length : Int) then
  (0 ≤ x715 ∧ x715 < (((ix r66.1 x351).t).length : Int)) ∧
  if (ix ((ix r66.1 x351).t) x715).from_ ≤ x51 then
   if x51 < (ix ((ix r66.1 x351).t) x715).to then
    ∃ x810 : List Int, (x810 = x710 ++ ([x715] : List Int)) ∧
    (x810.length * 8 ≤ 211106232532992) ∧
    o2 = .inl (x810, w64 (x715 + 1))
   else
    o2 = .inl (x710, w64 (x715 + 1))
  else
   o2 = .inl (x710, w64 (x715 + 1))
 else
  ∃ r816 : List Int, (tree_Path ((ix r66.1 x351).t) x51 r816) ∧
  ∃ r829 : Bool, (trellislaw15_sameInts r816 x710 r829) ∧
  if r829 = true then
   Rounds (fun (s : Int) o => trellislaw15_TreeCovers_b3 r816 r66 x351 s o) 0 o2
  else
   o2 = .inr (.inr (false))
def trellislaw15_TreeCovers_b1 (r66 : (List trellislaw15_Made) × (List api_Node) × Bool) (x51 : Int) (x351 : Int) (o1 : Sum Int Bool) : Prop :=
 if x351 < (r66.1.length : Int) then
  (0 ≤ x351 ∧ x351 < (r66.1.length : Int)) ∧
  Rounds (fun (s : (List Int) × Int) o => trellislaw15_TreeCovers_b2 r66 x351 x51 s.1 s.2 o) (([] : List Int), 0) o1
 else
  o1 = .inr (true)
def trellislaw15_TreeCovers (x1 : api_Lang) (x46 : List trellislaw15_Op) (x51 : Int) (r : Bool) : Prop :=
 ∃ r57 : Bool, (trellislaw15_alive  r57) ∧
 if r57 = true then
  ∃ r66 : (List trellislaw15_Made) × (List api_Node) × Bool, (trellislaw15_made x1 x46 r66) ∧
  if r66.2.2 = true then
   Rounds (fun (s : Int) o => trellislaw15_TreeCovers_b1 r66 x51 s o) 0 r
  else
   r = false
 else
  r = false
def trellislaw15_TreeWays_j2 (x153 : Bool) (r : Bool) : Prop :=
 r = x153
def trellislaw15_TreeWays_j5 (x2309 : Int) (r2023 : List Int) (x1 : List api_Node) (x2308 : Int) (x2596 : Bool) (o2 : Sum (Int × Int) (Sum (Int × Int × (List api_Node) × (List Int) × (List Int) × Bool × Int) Bool)) : Prop :=
 if x2596 = true then
  o2 = .inr (.inr (false))
 else
  (0 ≤ x2309 ∧ x2309 < (r2023.length : Int)) ∧
  ∃ r2602 : Int, (tree_Size x1 (ix r2023 x2309) r2602) ∧
  o2 = .inl (w64 (x2308 + r2602), w64 (x2309 + 1))
def trellislaw15_TreeWays_j9 (x2720 : List api_Node) (x2727 : List Int) (x2734 : List Int) (x2741 : Bool) (x2742 : Int) (x2719 : Int) (x1 : List api_Node) (x2718 : Bool) (x1110 : Int) (x2641 : Int) (x2797 : Bool) (o3 : Sum (Bool × Int × (List api_Node) × (List Int) × (List Int) × Bool × Int) (Sum (Int × Int) (Sum (Int × Int × (List api_Node) × (List Int) × (List Int) × Bool × Int) Bool))) : Prop :=
 if x2797 = true then
  ∃ r2802 : Bool × tree_Cursor, (tree_Cursor_Next (⟨(⟨(⟨x2720, x2727, x2734, x2741⟩ : tree_forest), x2742⟩ : tree_stand)⟩ : tree_Cursor) r2802) ∧
  if r2802.1 = true then
   o3 = .inl (r2802.1, w64 (x2719 + 1), r2802.2.stand.forest.nodes, r2802.2.stand.forest.parent, r2802.2.stand.forest.end_, r2802.2.stand.forest.ok, r2802.2.stand.at_)
  else
   ∃ r2825 : Bool × tree_Cursor, (tree_Cursor_Up r2802.2 r2825) ∧
   if r2825.1 = true then
    o3 = .inl (r2802.1, w64 (x2719 + 1), r2825.2.stand.forest.nodes, r2825.2.stand.forest.parent, r2825.2.stand.forest.end_, r2825.2.stand.forest.ok, r2825.2.stand.at_)
   else
    o3 = .inl (r2802.1, w64 ((x1.length : Int) + 1), r2825.2.stand.forest.nodes, r2825.2.stand.forest.parent, r2825.2.stand.forest.end_, r2825.2.stand.forest.ok, r2825.2.stand.at_)
 else
  if (x2718 != (decide (x1110 < w64 ((x1.length : Int) - 1)))) = true then
   o3 = .inr (.inr (.inr (false)))
  else
   o3 = .inr (.inr (.inl (x2641, w64 (x1110 + 1), x2720, x2727, x2734, x2741, x2742)))
def trellislaw15_TreeWays_b8 (x1 : List api_Node) (x1110 : Int) (x2641 : Int) (x2718 : Bool) (x2719 : Int) (x2720 : List api_Node) (x2727 : List Int) (x2734 : List Int) (x2741 : Bool) (x2742 : Int) (o3 : Sum (Bool × Int × (List api_Node) × (List Int) × (List Int) × Bool × Int) (Sum (Int × Int) (Sum (Int × Int × (List api_Node) × (List Int) × (List Int) × Bool × Int) Bool))) : Prop :=
 if x2719 ≤ (x1.length : Int) then
  trellislaw15_TreeWays_j9 x2720 x2727 x2734 x2741 x2742 x2719 x1 x2718 x1110 x2641 (!x2718) o3
 else
  trellislaw15_TreeWays_j9 x2720 x2727 x2734 x2741 x2742 x2719 x1 x2718 x1110 x2641 false o3
def trellislaw15_TreeWays_j7 (r2000 : Int × tree_stand) (r2023 : List Int) (x1 : List api_Node) (x1110 : Int) (x2641 : Int) (o2 : Sum (Int × Int) (Sum (Int × Int × (List api_Node) × (List Int) × (List Int) × Bool × Int) Bool)) : Prop :=
 ∃ r2645 : Bool × tree_Cursor, (tree_Cursor_Down (⟨r2000.2⟩ : tree_Cursor) r2645) ∧
 if (r2645.1 != (decide ((r2023.length : Int) > 0))) = true then
  o2 = .inr (.inr (false))
 else
  Rounds (fun (s : Bool × Int × (List api_Node) × (List Int) × (List Int) × Bool × Int) o => trellislaw15_TreeWays_b8 x1 x1110 x2641 s.1 s.2.1 s.2.2.1 s.2.2.2.1 s.2.2.2.2.1 s.2.2.2.2.2.1 s.2.2.2.2.2.2 o) (r2645.1, 0, r2645.2.stand.forest.nodes, r2645.2.stand.forest.parent, r2645.2.stand.forest.end_, r2645.2.stand.forest.ok, r2645.2.stand.at_) o2
def trellislaw15_TreeWays_j6 (x1 : List api_Node) (x1110 : Int) (r2000 : Int × tree_stand) (r2023 : List Int) (x1109 : Int) (x2629 : Bool) (o2 : Sum (Int × Int) (Sum (Int × Int × (List api_Node) × (List Int) × (List Int) × Bool × Int) Bool)) : Prop :=
 if x2629 = true then
  o2 = .inr (.inr (false))
 else
  ∃ r2634 : Int, (tree_Parent x1 x1110 r2634) ∧
  if r2634 = -1 then
   trellislaw15_TreeWays_j7 r2000 r2023 x1 x1110 (w64 (x1109 + 1)) o2
  else
   trellislaw15_TreeWays_j7 r2000 r2023 x1 x1110 x1109 o2
def trellislaw15_TreeWays_b4 (r2023 : List Int) (x1110 : Int) (x1 : List api_Node) (r2000 : Int × tree_stand) (x1109 : Int) (x2308 : Int) (x2309 : Int) (o2 : Sum (Int × Int) (Sum (Int × Int × (List api_Node) × (List Int) × (List Int) × Bool × Int) Bool)) : Prop :=
 if x2309 < (r2023.length : Int) then
  (0 ≤ x2309 ∧ x2309 < (r2023.length : Int)) ∧
  if ix r2023 x2309 = w64 (x1110 + x2308) then
   ∃ r2612 : Int, (tree_Parent x1 (ix r2023 x2309) r2612) ∧
   trellislaw15_TreeWays_j5 x2309 r2023 x1 x2308 (r2612 != x1110) o2
  else
   trellislaw15_TreeWays_j5 x2309 r2023 x1 x2308 true o2
 else
  ∃ r2850 : Int, (tree_Size x1 x1110 r2850) ∧
  if r2850 = x2308 then
   (0 ≤ x1110 ∧ x1110 < (x1.length : Int)) ∧
   trellislaw15_TreeWays_j6 x1 x1110 r2000 r2023 x1109 ((r2023.length : Int) != ((ix x1 x1110).kids)) o2
  else
   trellislaw15_TreeWays_j6 x1 x1110 r2000 r2023 x1109 true o2
def trellislaw15_TreeWays_b3 (x1 : List api_Node) (r27 : Int) (x1109 : Int) (x1110 : Int) (x1111 : List api_Node) (x1118 : List Int) (x1125 : List Int) (x1132 : Bool) (x1133 : Int) (o1 : Sum (Int × Int × (List api_Node) × (List Int) × (List Int) × Bool × Int) Bool) : Prop :=
 if x1110 < (x1.length : Int) then
  ∃ r2000 : Int × tree_stand, (tree_stand_Place (⟨(⟨x1111, x1118, x1125, x1132⟩ : tree_forest), x1133⟩ : tree_stand) r2000) ∧
  if r2000.1 = x1110 then
   ∃ r2023 : List Int, (tree_Kids x1 x1110 r2023) ∧
   Rounds (fun (s : Int × Int) o => trellislaw15_TreeWays_b4 r2023 x1110 x1 r2000 x1109 s.1 s.2 o) (1, 0) o1
  else
   o1 = .inr (false)
 else
  o1 = .inr ((x1109 == r27))
def trellislaw15_TreeWays_j1 (r35 : tree_Cursor) (r27 : Int) (x1 : List api_Node) (x58 : Bool) (r : Bool) : Prop :=
 if x58 = true then
  ∃ r157 : Int × tree_stand, (tree_stand_Place r35.stand r157) ∧
  if r157.1 = -1 then
   ∃ r180 : Bool × tree_Cursor, (tree_Cursor_Down (⟨r157.2⟩ : tree_Cursor) r180) ∧
   if r180.1 = true then
    trellislaw15_TreeWays_j2 false r
   else
    ∃ r203 : Bool × tree_Cursor, (tree_Cursor_Next r180.2 r203) ∧
    if r203.1 = true then
     trellislaw15_TreeWays_j2 false r
    else
     ∃ r226 : Bool × tree_Cursor, (tree_Cursor_Up r203.2 r226) ∧
     if r226.1 = true then
      trellislaw15_TreeWays_j2 false r
     else
      trellislaw15_TreeWays_j2 ((decide (r27 < 0)) == (decide ((x1.length : Int) > 0))) r
  else
   trellislaw15_TreeWays_j2 false r
 else
  Rounds (fun (s : Int × Int × (List api_Node) × (List Int) × (List Int) × Bool × Int) o => trellislaw15_TreeWays_b3 x1 r27 s.1 s.2.1 s.2.2.1 s.2.2.2.1 s.2.2.2.2.1 s.2.2.2.2.2.1 s.2.2.2.2.2.2 o) (0, 0, r35.stand.forest.nodes, r35.stand.forest.parent, r35.stand.forest.end_, r35.stand.forest.ok, r35.stand.at_) r
def trellislaw15_TreeWays (x1 : List api_Node) (r : Bool) : Prop :=
 ∃ r9 : Bool, (trellislaw15_alive  r9) ∧
 if r9 = true then
  ∃ r18 : Bool, (trellisref15_Beyond x1 r18) ∧
  if r18 = true then
   r = true
  else
   ∃ r27 : Int, (tree_Roots x1 r27) ∧
   ∃ r35 : tree_Cursor, (tree_Walk x1 r35) ∧
   if r27 < 0 then
    trellislaw15_TreeWays_j1 r35 r27 x1 true r
   else
    trellislaw15_TreeWays_j1 r35 r27 x1 ((x1.length : Int) == 0) r
 else
  r = false
end Go.Proofs.Ytmekgfcfooghnaa.R
