/- What the functions answer, as plain relations, printed by my own tool off the program's translation. No condition. -/
import Derived.Test.YtoifgnogoddmlaaP0
set_option linter.unusedVariables false
namespace Go.Proofs.Ytoifgnogoddmlaa.R
open Go.Proofs.Ytoifgnogoddmlaa.B
structure api_Node where
  name : ByteArray
  named : Bool
  field : ByteArray
  from_ : Int
  to : Int
  kids : Int
  leaf : Int
  deriving Inhabited, DecidableEq
structure api_Range where
  from_ : Int
  to : Int
  deriving Inhabited, DecidableEq
structure tree_forest where
  nodes : List api_Node
  parent : List Int
  end_ : List Int
  ok : Bool
  deriving Inhabited, DecidableEq
structure trellisref15_Tree where
  node : api_Node
  kids : List trellisref15_Tree
  at_ : Int
instance : Inhabited trellisref15_Tree := ⟨⟨default, [], default⟩⟩
/-- the last element that is none of q's; q if there is none -/
def growB {α : Type} [DecidableEq α] (b : Int → α) (q : α) (l : List Int) : α := ((l.reverse.map b).find? (fun z => decide (z ≠ q))).getD q
def stepS {α : Type} [DecidableEq α] (q : α) (out : List α) (z : α) : List α := if z = out.getLast?.getD q then out else out ++ [z]
/-- what is met from the end on, each but the ones that are as the last one kept -/
def stepsB {α : Type} [DecidableEq α] (b : Int → α) (q : α) (l : List Int) : List α := (l.reverse.map b).foldl (stepS q) [q]
/-- a node's bytes -/
def byt (n : api_Node) : api_Range := ⟨n.from_, n.to⟩
def trellisref15_Beyond_b2 (x40 : Int) (x1 : List api_Node) (x191 : List Int) (o2 : Sum (List Int) (Sum ((List Int) × Int) Bool)) : Prop :=
  if (x191.length : Int) > 0 then
    (0 ≤ w64 ((x191.length : Int) - 1) ∧ w64 ((x191.length : Int) - 1) < (x191.length : Int)) ∧
    if ix x191 (w64 ((x191.length : Int) - 1)) ≤ 0 then
      (0 ≤ (0 : Int) ∧ (0 : Int) ≤ w64 ((x191.length : Int) - 1) ∧ w64 ((x191.length : Int) - 1) ≤ (x191.length : Int)) ∧
      ∃ x236 : List Int, (x236 = x191.take (w64 ((x191.length : Int) - 1) : Int).toNat) ∧
      o2 = .inl x236
    else
      ∃ x240 : List Int, (x240 = x191.set (w64 ((x191.length : Int) - 1) : Int).toNat (w64 ((ix x191 (w64 ((x191.length : Int) - 1))) - 1))) ∧
      (0 ≤ x40 ∧ x40 < (x1.length : Int)) ∧
      ∃ x251 : List Int, (x251 = x240 ++ ([(ix x1 x40).kids] : List Int)) ∧
      (x251.length * 8 ≤ 211106232532992) ∧
      if (x251.length : Int) > 65536 then
        o2 = .inr (.inr (true))
      else
        o2 = .inr (.inl (x251, w64 (x40 + 1)))
  else
    (0 ≤ x40 ∧ x40 < (x1.length : Int)) ∧
    ∃ x263 : List Int, (x263 = x191 ++ ([(ix x1 x40).kids] : List Int)) ∧
    (x263.length * 8 ≤ 211106232532992) ∧
    if (x263.length : Int) > 65536 then
      o2 = .inr (.inr (true))
    else
      o2 = .inr (.inl (x263, w64 (x40 + 1)))
def trellisref15_Beyond_b1 (x1 : List api_Node) (x35 : List Int) (x40 : Int) (o1 : Sum ((List Int) × Int) Bool) : Prop :=
  if x40 < (x1.length : Int) then
    Rounds (fun (s : (List Int)) o => trellisref15_Beyond_b2 x40 x1 s o) x35 o1
  else
    o1 = .inr (false)
def trellisref15_Beyond (x1 : List api_Node) (r : Bool) : Prop :=
  Rounds (fun (s : (List Int) × Int) o => trellisref15_Beyond_b1 x1 s.1 s.2 o) (([] : List Int), 0) r
def trellislaw32_twin_b1 (x1 : List api_Node) (x20 : List api_Node) (x25 : Int) (o1 : Sum ((List api_Node) × Int) (List api_Node)) : Prop :=
  if x25 < (x1.length : Int) then
    (0 ≤ x25 ∧ x25 < (x1.length : Int)) ∧
    ∃ x47 : List api_Node, (x47 = x20 ++ ([ix x1 x25] : List api_Node)) ∧
    (x47.length * 72 ≤ 211106232532992) ∧
    o1 = .inl (x47, w64 (x25 + 1))
  else
    o1 = .inr (x20)
def trellislaw32_twin (x1 : List api_Node) (r : List api_Node) : Prop :=
  Rounds (fun (s : (List api_Node) × Int) o => trellislaw32_twin_b1 x1 s.1 s.2 o) (([] : List api_Node), 0) r
def trellislaw32_lent_b1 (x1 : List api_Node) (x29 : List api_Node) (x34 : Int) (o1 : Sum ((List api_Node) × Int) ((List api_Node) × Nat)) : Prop :=
  if x34 < 20 then
    ∃ x54 : List api_Node, (x54 = x29 ++ ([(⟨(⟨#[109, 97, 114, 107]⟩ : ByteArray), false, (⟨#[]⟩ : ByteArray), w64 (900 + x34), 0, 0, 0⟩ : api_Node)] : List api_Node)) ∧
    (x54.length * 72 ≤ 211106232532992) ∧
    o1 = .inl (x54, w64 (x34 + 1))
  else
    (0 ≤ (0 : Int) ∧ (0 : Int) ≤ (x1.length : Int) ∧ (x1.length : Int) ≤ (x29.length : Int)) ∧
    o1 = .inr ((x29, ((x1.length : Int) : Int).toNat))
def trellislaw32_lent (x1 : List api_Node) (r : (List api_Node) × Nat) : Prop :=
  ∃ r9 : List api_Node, (trellislaw32_twin x1 r9) ∧
  Rounds (fun (s : (List api_Node) × Int) o => trellislaw32_lent_b1 x1 s.1 s.2 o) (r9, 0) r
def choose_taken (x1 : api_Range) (r : api_Range) : Prop :=
  r = (⟨x1.from_, max x1.from_ x1.to⟩ : api_Range)
def tree_plant_b3 (x355 : Int) (x654 : List Int) (x766 : List Int) (x771 : List Int) (x776 : List Int) (o2 : Sum ((List Int) × (List Int) × (List Int)) (Sum ((List Int) × (List Int) × Int × (List Int) × (List Int)) tree_forest)) : Prop :=
  if (x766.length : Int) > 0 then
    (0 ≤ w64 ((x771.length : Int) - 1) ∧ w64 ((x771.length : Int) - 1) < (x771.length : Int)) ∧
    if ix x771 (w64 ((x771.length : Int) - 1)) = 0 then
      (0 ≤ w64 ((x766.length : Int) - 1) ∧ w64 ((x766.length : Int) - 1) < (x766.length : Int)) ∧
      (0 ≤ ix x766 (w64 ((x766.length : Int) - 1)) ∧ ix x766 (w64 ((x766.length : Int) - 1)) < (x776.length : Int)) ∧
      ∃ x811 : List Int, (x811 = x776.set (ix x766 (w64 ((x766.length : Int) - 1)) : Int).toNat (w64 (x355 + 1))) ∧
      (0 ≤ (0 : Int) ∧ (0 : Int) ≤ w64 ((x766.length : Int) - 1) ∧ w64 ((x766.length : Int) - 1) ≤ (x766.length : Int)) ∧
      ∃ x818 : List Int, (x818 = x766.take (w64 ((x766.length : Int) - 1) : Int).toNat) ∧
      (0 ≤ (0 : Int) ∧ (0 : Int) ≤ w64 ((x771.length : Int) - 1) ∧ w64 ((x771.length : Int) - 1) ≤ (x771.length : Int)) ∧
      ∃ x823 : List Int, (x823 = x771.take (w64 ((x771.length : Int) - 1) : Int).toNat) ∧
      o2 = .inl (x818, x823, x811)
    else
      o2 = .inr (.inl (x766, x771, w64 (x355 + 1), x654, x776))
  else
    o2 = .inr (.inl (x766, x771, w64 (x355 + 1), x654, x776))
def tree_plant_j2 (x1 : List api_Node) (x355 : Int) (x358 : List Int) (x345 : List Int) (x652 : List Int) (x654 : List Int) (o1 : Sum ((List Int) × (List Int) × Int × (List Int) × (List Int)) tree_forest) : Prop :=
  if (ix x1 x355).kids < 0 then
    o1 = .inr ((⟨x1, x654, x358, false⟩ : tree_forest))
  else
    ∃ x663 : List Int, (x663 = x345 ++ ([x355] : List Int)) ∧
    (x663.length * 8 ≤ 211106232532992) ∧
    ∃ x672 : List Int, (x672 = x652 ++ ([(ix x1 x355).kids] : List Int)) ∧
    (x672.length * 8 ≤ 211106232532992) ∧
    Rounds (fun (s : (List Int) × (List Int) × (List Int)) o => tree_plant_b3 x355 x654 s.1 s.2.1 s.2.2 o) (x663, x672, x358) o1
def tree_plant_b1 (x1 : List api_Node) (x345 : List Int) (x350 : List Int) (x355 : Int) (x356 : List Int) (x358 : List Int) (o1 : Sum ((List Int) × (List Int) × Int × (List Int) × (List Int)) tree_forest) : Prop :=
  if x355 < (x1.length : Int) then
    (0 ≤ x355 ∧ x355 < (x1.length : Int)) ∧
    (0 ≤ x355 ∧ x355 < (x356.length : Int)) ∧
    ∃ x636 : List Int, (x636 = x356.set (x355 : Int).toNat (-1)) ∧
    if (x345.length : Int) > 0 then
      (0 ≤ w64 ((x345.length : Int) - 1) ∧ w64 ((x345.length : Int) - 1) < (x345.length : Int)) ∧
      (0 ≤ x355 ∧ x355 < (x636.length : Int)) ∧
      ∃ x891 : List Int, (x891 = x636.set (x355 : Int).toNat (ix x345 (w64 ((x345.length : Int) - 1)))) ∧
      (0 ≤ w64 ((x350.length : Int) - 1) ∧ w64 ((x350.length : Int) - 1) < (x350.length : Int)) ∧
      ∃ x897 : List Int, (x897 = x350.set (w64 ((x350.length : Int) - 1) : Int).toNat (w64 ((ix x350 (w64 ((x350.length : Int) - 1))) - 1))) ∧
      tree_plant_j2 x1 x355 x358 x345 x897 x891 o1
    else
      tree_plant_j2 x1 x355 x358 x345 x350 x636 o1
  else
    o1 = .inr ((⟨x1, x356, x358, ((x345.length : Int) == 0)⟩ : tree_forest))
def tree_plant (x1 : List api_Node) (r : tree_forest) : Prop :=
  (0 ≤ (x1.length : Int) ∧ (x1.length : Int) * 8 ≤ 281474976710656) ∧
  ∃ x12 : List Int, (x12 = List.replicate ((x1.length : Int) : Int).toNat (0 : Int)) ∧
  ∃ x17 : List Int, (x17 = List.replicate ((x1.length : Int) : Int).toNat (0 : Int)) ∧
  Rounds (fun (s : (List Int) × (List Int) × Int × (List Int) × (List Int)) o => tree_plant_b1 x1 s.1 s.2.1 s.2.2.1 s.2.2.2.1 s.2.2.2.2 o) (([] : List Int), ([] : List Int), 0, x12, x17) r
def tree_forest_beside_b1 (x15 : Int) (x1 : tree_forest) (x32 : Int) (x33 : List Int) (o1 : Sum (Int × (List Int)) (List Int)) : Prop :=
  if x32 < x15 then
    ∃ x57 : List Int, (x57 = x33 ++ ([x32] : List Int)) ∧
    (x57.length * 8 ≤ 211106232532992) ∧
    (0 ≤ x32 ∧ x32 < (x1.end_.length : Int)) ∧
    o1 = .inl (ix x1.end_ x32, x57)
  else
    o1 = .inr (x33)
def tree_forest_beside (x1 : tree_forest) (x14 : Int) (x15 : Int) (r : List Int) : Prop :=
  Rounds (fun (s : Int × (List Int)) o => tree_forest_beside_b1 x15 x1 s.1 s.2 o) (x14, ([] : List Int)) r
def tree_roots (x1 : List api_Node) (r : List Int) : Prop :=
  ∃ r9 : tree_forest, (tree_plant x1 r9) ∧
  if r9.ok = true then
    ∃ r36 : List Int, (tree_forest_beside r9 0 (x1.length : Int) r36) ∧
    r = r36
  else
    r = ([] : List Int)
def tree_Roots (x1 : List api_Node) (r : Int) : Prop :=
  ∃ r9 : tree_forest, (tree_plant x1 r9) ∧
  if r9.ok = true then
    ∃ r34 : List Int, (tree_roots x1 r34) ∧
    r = (r34.length : Int)
  else
    r = -1
def choose_sizes_b2 (x1 : List api_Node) (x59 : Int) (x111 : List Int) (x113 : Int) (o2 : Sum ((List Int) × Int) (Sum ((List Int) × Int) (List Int))) : Prop :=
  if x113 < (ix x1 x59).kids then
    (0 ≤ x59 ∧ x59 < (x111.length : Int)) ∧
    (0 ≤ w64 (x59 + (ix x111 x59)) ∧ w64 (x59 + (ix x111 x59)) < (x111.length : Int)) ∧
    ∃ x125 : List Int, (x125 = x111.set (x59 : Int).toNat (w64 ((ix x111 x59) + (ix x111 (w64 (x59 + (ix x111 x59))))))) ∧
    o2 = .inl (x125, w64 (x113 + 1))
  else
    o2 = .inr (.inl (x111, w64 (x59 - 1)))
def choose_sizes_b1 (x1 : List api_Node) (x57 : List Int) (x59 : Int) (o1 : Sum ((List Int) × Int) (List Int)) : Prop :=
  if x59 ≥ 0 then
    (0 ≤ x59 ∧ x59 < (x57.length : Int)) ∧
    ∃ x97 : List Int, (x97 = x57.set (x59 : Int).toNat 1) ∧
    (0 ≤ x59 ∧ x59 < (x1.length : Int)) ∧
    Rounds (fun (s : (List Int) × Int) o => choose_sizes_b2 x1 x59 s.1 s.2 o) (x97, 0) o1
  else
    o1 = .inr (x57)
def choose_sizes (x1 : List api_Node) (r : List Int) : Prop :=
  ∃ r9 : Int, (tree_Roots x1 r9) ∧
  if r9 < 0 then
    r = ([] : List Int)
  else
    (0 ≤ (x1.length : Int) ∧ (x1.length : Int) * 8 ≤ 281474976710656) ∧
    ∃ x19 : List Int, (x19 = List.replicate ((x1.length : Int) : Int).toNat (0 : Int)) ∧
    Rounds (fun (s : (List Int) × Int) o => choose_sizes_b1 x1 s.1 s.2 o) (x19, w64 ((x1.length : Int) - 1)) r
def choose_has (x1 : api_Node) (x2 : api_Range) (r : Bool) : Prop :=
  if x1.from_ ≤ x2.from_ then
    r = decide (x1.to ≥ x2.to)
  else
    r = false
def choose_way_b1 (x1 : List api_Node) (x6 : api_Range) (r12 : List Int) (x73 : List Int) (x78 : Int) (x79 : Int) (o1 : Sum ((List Int) × Int × Int) (List Int)) : Prop :=
  if x78 < x79 then
    (0 ≤ x78 ∧ x78 < (x1.length : Int)) ∧
    ∃ r135 : Bool, (choose_has (ix x1 x78) x6 r135) ∧
    if r135 = true then
      ∃ x173 : List Int, (x173 = x73 ++ ([x78] : List Int)) ∧
      (x173.length * 8 ≤ 211106232532992) ∧
      (0 ≤ x78 ∧ x78 < (r12.length : Int)) ∧
      o1 = .inl (x173, w64 (x78 + 1), w64 (x78 + (ix r12 x78)))
    else
      (0 ≤ x78 ∧ x78 < (r12.length : Int)) ∧
      o1 = .inl (x73, w64 (x78 + (ix r12 x78)), x79)
  else
    o1 = .inr (x73)
def choose_way (x1 : List api_Node) (x6 : api_Range) (r : List Int) : Prop :=
  ∃ r12 : List Int, (choose_sizes x1 r12) ∧
  Rounds (fun (s : (List Int) × Int × Int) o => choose_way_b1 x1 x6 r12 s.1 s.2.1 s.2.2 o) (([] : List Int), 0, (r12.length : Int)) r
def choose_Cover (x1 : List api_Node) (x6 : api_Range) (r : Int) : Prop :=
  ∃ r12 : api_Range, (choose_taken x6 r12) ∧
  ∃ r20 : List Int, (choose_way x1 r12 r20) ∧
  if (r20.length : Int) = 0 then
    r = -1
  else
    (0 ≤ w64 ((r20.length : Int) - 1) ∧ w64 ((r20.length : Int) - 1) < (r20.length : Int)) ∧
    r = ix r20 (w64 ((r20.length : Int) - 1))
def choose_bytes (x1 : api_Node) (r : api_Range) : Prop :=
  r = (⟨x1.from_, x1.to⟩ : api_Range)
def choose_Grow (x1 : List api_Node) (x6 : api_Range) (r : api_Range) : Prop :=
  ∃ q : api_Range, (choose_taken x6 q) ∧ ∃ l : List Int, (choose_way x1 q l) ∧ (∀ y ∈ l, 0 ≤ y ∧ y < (x1.length : Int)) ∧ l.length * 8 ≤ 140737488355328 ∧ r = growB (fun y => byt (ix x1 y)) q l
def choose_nested_b2 (x1 : List api_Node) (x249 : Int) (r9 : List Int) (x556 : Int) (x557 : Int) (o2 : Sum (Int × Int) (Sum Int Bool)) : Prop :=
  if x557 < (ix x1 x249).kids then
    (0 ≤ x556 ∧ x556 < (x1.length : Int)) ∧
    ∃ r639 : api_Range, (choose_bytes (ix x1 x556) r639) ∧
    ∃ r647 : Bool, (choose_has (ix x1 x249) r639 r647) ∧
    if r647 = true then
      (0 ≤ x556 ∧ x556 < (r9.length : Int)) ∧
      o2 = .inl (w64 (x556 + (ix r9 x556)), w64 (x557 + 1))
    else
      o2 = .inr (.inr (false))
  else
    o2 = .inr (.inl (w64 (x249 + 1)))
def choose_nested_b1 (r9 : List Int) (x1 : List api_Node) (x249 : Int) (o1 : Sum Int Bool) : Prop :=
  if x249 < (r9.length : Int) then
    (0 ≤ x249 ∧ x249 < (x1.length : Int)) ∧
    Rounds (fun (s : Int × Int) o => choose_nested_b2 x1 x249 r9 s.1 s.2 o) (w64 (x249 + 1), 0) o1
  else
    o1 = .inr (true)
def choose_nested (x1 : List api_Node) (r : Bool) : Prop :=
  ∃ r9 : List Int, (choose_sizes x1 r9) ∧
  Rounds (fun (s : Int) o => choose_nested_b1 r9 x1 s o) 0 r
def choose_slowly_b1 (x1 : List api_Node) (x35 : List api_Range) (o1 : Sum (List api_Range) (List api_Range)) : Prop :=
  (0 ≤ w64 ((x35.length : Int) - 1) ∧ w64 ((x35.length : Int) - 1) < (x35.length : Int)) ∧
  ∃ r65 : api_Range, (choose_Grow x1 (ix x35 (w64 ((x35.length : Int) - 1))) r65) ∧
  if r65 = ix x35 (w64 ((x35.length : Int) - 1)) then
    o1 = .inr (x35)
  else
    ∃ x79 : List api_Range, (x79 = x35 ++ ([r65] : List api_Range)) ∧
    (x79.length * 16 ≤ 211106232532992) ∧
    o1 = .inl x79
def choose_slowly (x1 : List api_Node) (x6 : List api_Range) (r : List api_Range) : Prop :=
  Rounds (fun (s : (List api_Range)) o => choose_slowly_b1 x1 s o) x6 r
def choose_Steps (x1 : List api_Node) (x6 : api_Range) (r : List api_Range) : Prop :=
  ∃ q : api_Range, (choose_taken x6 q) ∧ ∃ bn : Bool, (choose_nested x1 bn) ∧ (bn = false → choose_slowly x1 [q] r) ∧ (bn = true → ∃ l : List Int, (choose_way x1 q l) ∧ (∀ y ∈ l, 0 ≤ y ∧ y < (x1.length : Int)) ∧ (l.length + 1) * 16 ≤ 140737488355328 ∧ r = stepsB (fun y => byt (ix x1 y)) q l)
def trellisref32_taken (x1 : api_Range) (r : api_Range) : Prop :=
  if x1.to < x1.from_ then
    r = (⟨x1.from_, x1.from_⟩ : api_Range)
  else
    r = x1
def trellisref15_take_b2 (x1 : List api_Node) (x6 : Int) (rc_trellisref15_take : (List api_Node) → Int → (trellisref15_Tree × Int × Bool) → Prop) (x64 : Int) (x65 : Int) (x66 : List trellisref15_Tree) (o1 : Sum (Int × Int × (List trellisref15_Tree)) (trellisref15_Tree × Int × Bool)) : Prop :=
  if x65 < (ix x1 x6).kids then
    ∃ r121 : trellisref15_Tree × Int × Bool, (rc_trellisref15_take x1 x64 r121) ∧
    if r121.2.2 = true then
      ∃ x151 : List trellisref15_Tree, (x151 = x66 ++ ([r121.1] : List trellisref15_Tree)) ∧
      (x151.length * 104 ≤ 211106232532992) ∧
      o1 = .inl (r121.2.1, w64 (x65 + 1), x151)
    else
      o1 = .inr (((⟨(⟨(⟨#[]⟩ : ByteArray), false, (⟨#[]⟩ : ByteArray), 0, 0, 0, 0⟩ : api_Node), ([] : List trellisref15_Tree), 0⟩ : trellisref15_Tree), x6, false))
  else
    o1 = .inr (((⟨ix x1 x6, x66, x6⟩ : trellisref15_Tree), x64, true))
def trellisref15_take_j1 (x6 : Int) (x1 : List api_Node) (rc_trellisref15_take : (List api_Node) → Int → (trellisref15_Tree × Int × Bool) → Prop) (x15 : Bool) (r : trellisref15_Tree × Int × Bool) : Prop :=
  if x15 = true then
    r = ((⟨(⟨(⟨#[]⟩ : ByteArray), false, (⟨#[]⟩ : ByteArray), 0, 0, 0, 0⟩ : api_Node), ([] : List trellisref15_Tree), 0⟩ : trellisref15_Tree), x6, false)
  else
    (0 ≤ x6 ∧ x6 < (x1.length : Int)) ∧
    Rounds (fun (s : Int × Int × (List trellisref15_Tree)) o => trellisref15_take_b2 x1 x6 rc_trellisref15_take s.1 s.2.1 s.2.2 o) (w64 (x6 + 1), 0, ([] : List trellisref15_Tree)) r
def trellisref15_take_body (rc_trellisref15_take : (List api_Node) → Int → (trellisref15_Tree × Int × Bool) → Prop) (x1 : List api_Node) (x6 : Int) (r : trellisref15_Tree × Int × Bool) : Prop :=
  if x6 ≥ (x1.length : Int) then
    trellisref15_take_j1 x6 x1 rc_trellisref15_take true r
  else
    (0 ≤ x6 ∧ x6 < (x1.length : Int)) ∧
    if (ix x1 x6).kids < 0 then
      trellisref15_take_j1 x6 x1 rc_trellisref15_take true r
    else
      trellisref15_take_j1 x6 x1 rc_trellisref15_take (decide ((ix x1 x6).kids > (x1.length : Int))) r
def trellisref15_take_n : Nat → (List api_Node) → Int → (trellisref15_Tree × Int × Bool) → Prop
  | 0 => fun _ _ _ => False
  | n + 1 => trellisref15_take_body (trellisref15_take_n n)
def trellisref15_take (x1 : List api_Node) (x6 : Int) (r : trellisref15_Tree × Int × Bool) : Prop := ∃ n, trellisref15_take_n n x1 x6 r
def trellisref15_Forest_b1 (x1 : List api_Node) (x48 : List trellisref15_Tree) (x57 : Int) (o1 : Sum ((List trellisref15_Tree) × Int) ((List trellisref15_Tree) × Bool)) : Prop :=
  if x57 < (x1.length : Int) then
    ∃ r102 : trellisref15_Tree × Int × Bool, (trellisref15_take x1 x57 r102) ∧
    if r102.2.2 = true then
      ∃ x132 : List trellisref15_Tree, (x132 = x48 ++ ([r102.1] : List trellisref15_Tree)) ∧
      (x132.length * 104 ≤ 211106232532992) ∧
      o1 = .inl (x132, r102.2.1)
    else
      o1 = .inr ((([] : List trellisref15_Tree), false))
  else
    o1 = .inr ((x48, true))
def trellisref15_Forest (x1 : List api_Node) (r : (List trellisref15_Tree) × Bool) : Prop :=
  Rounds (fun (s : (List trellisref15_Tree) × Int) o => trellisref15_Forest_b1 x1 s.1 s.2 o) (([] : List trellisref15_Tree), 0) r
def trellisref15_find_b1 (x1 : List trellisref15_Tree) (x6 : Int) (x7 : Int) (rc_trellisref15_find : (List trellisref15_Tree) → Int → Int → (trellisref15_Tree × Int × Bool) → Prop) (x199 : Int) (o1 : Sum Int (trellisref15_Tree × Int × Bool)) : Prop :=
  if x199 < (x1.length : Int) then
    (0 ≤ x199 ∧ x199 < (x1.length : Int)) ∧
    if (ix x1 x199).at_ = x6 then
      o1 = .inr ((ix x1 x199, x7, true))
    else
      ∃ r422 : trellisref15_Tree × Int × Bool, (rc_trellisref15_find ((ix x1 x199).kids) x6 ((ix x1 x199).at_) r422) ∧
      if r422.2.2 = true then
        o1 = .inr ((r422.1, r422.2.1, true))
      else
        o1 = .inl (w64 (x199 + 1))
  else
    o1 = .inr (((⟨(⟨(⟨#[]⟩ : ByteArray), false, (⟨#[]⟩ : ByteArray), 0, 0, 0, 0⟩ : api_Node), ([] : List trellisref15_Tree), 0⟩ : trellisref15_Tree), -1, false))
def trellisref15_find_body (rc_trellisref15_find : (List trellisref15_Tree) → Int → Int → (trellisref15_Tree × Int × Bool) → Prop) (x1 : List trellisref15_Tree) (x6 : Int) (x7 : Int) (r : trellisref15_Tree × Int × Bool) : Prop :=
  Rounds (fun (s : Int) o => trellisref15_find_b1 x1 x6 x7 rc_trellisref15_find s o) 0 r
def trellisref15_find_n : Nat → (List trellisref15_Tree) → Int → Int → (trellisref15_Tree × Int × Bool) → Prop
  | 0 => fun _ _ _ _ => False
  | n + 1 => trellisref15_find_body (trellisref15_find_n n)
def trellisref15_find (x1 : List trellisref15_Tree) (x6 : Int) (x7 : Int) (r : trellisref15_Tree × Int × Bool) : Prop := ∃ n, trellisref15_find_n n x1 x6 x7 r
def trellisref15_Kids_b1 (r30 : trellisref15_Tree × Int × Bool) (x63 : List Int) (x68 : Int) (o1 : Sum ((List Int) × Int) (List Int)) : Prop :=
  if x68 < (r30.1.kids.length : Int) then
    (0 ≤ x68 ∧ x68 < (r30.1.kids.length : Int)) ∧
    ∃ x102 : List Int, (x102 = x63 ++ ([(ix r30.1.kids x68).at_] : List Int)) ∧
    (x102.length * 8 ≤ 211106232532992) ∧
    o1 = .inl (x102, w64 (x68 + 1))
  else
    o1 = .inr (x63)
def trellisref15_Kids (x1 : List api_Node) (x6 : Int) (r : List Int) : Prop :=
  ∃ r10 : (List trellisref15_Tree) × Bool, (trellisref15_Forest x1 r10) ∧
  ∃ r30 : trellisref15_Tree × Int × Bool, (trellisref15_find r10.1 x6 (-1) r30) ∧
  Rounds (fun (s : (List Int) × Int) o => trellisref15_Kids_b1 r30 s.1 s.2 o) (([] : List Int), 0) r
def trellisref15_Roots (x1 : List api_Node) (r : Int) : Prop :=
  ∃ r9 : (List trellisref15_Tree) × Bool, (trellisref15_Forest x1 r9) ∧
  if r9.2 = true then
    r = (r9.1.length : Int)
  else
    r = -1
def trellisref15_Parent (x1 : List api_Node) (x6 : Int) (r : Int) : Prop :=
  ∃ r10 : (List trellisref15_Tree) × Bool, (trellisref15_Forest x1 r10) ∧
  ∃ r30 : trellisref15_Tree × Int × Bool, (trellisref15_find r10.1 x6 (-1) r30) ∧
  r = r30.2.1
def trellisref32_Row_j2 (x1 : List api_Node) (x67 : Int) (x62 : List Int) (x117 : Bool) (o1 : Sum ((List Int) × Int) (List Int)) : Prop :=
  if x117 = true then
    ∃ r122 : Int, (trellisref15_Parent x1 x67 r122) ∧
    if r122 < 0 then
      ∃ x134 : List Int, (x134 = x62 ++ ([x67] : List Int)) ∧
      (x134.length * 8 ≤ 211106232532992) ∧
      o1 = .inl (x134, w64 (x67 + 1))
    else
      o1 = .inl (x62, w64 (x67 + 1))
  else
    o1 = .inr (x62)
def trellisref32_Row_b1 (x1 : List api_Node) (x62 : List Int) (x67 : Int) (o1 : Sum ((List Int) × Int) (List Int)) : Prop :=
  if x67 < (x1.length : Int) then
    ∃ r141 : Int, (trellisref15_Roots x1 r141) ∧
    trellisref32_Row_j2 x1 x67 x62 (decide (r141 ≥ 0)) o1
  else
    trellisref32_Row_j2 x1 x67 x62 false o1
def trellisref32_Row (x1 : List api_Node) (x6 : Int) (r : List Int) : Prop :=
  if x6 ≥ 0 then
    ∃ r11 : List Int, (trellisref15_Kids x1 x6 r11) ∧
    r = r11
  else
    Rounds (fun (s : (List Int) × Int) o => trellisref32_Row_b1 x1 s.1 s.2 o) (([] : List Int), 0) r
def trellisref32_first_b1 (x6 : List Int) (x1 : List api_Node) (x11 : api_Range) (x37 : Int) (o1 : Sum Int Int) : Prop :=
  if x37 < (x6.length : Int) then
    (0 ≤ x37 ∧ x37 < (x6.length : Int)) ∧
    (0 ≤ ix x6 x37 ∧ ix x6 x37 < (x1.length : Int)) ∧
    if (ix x1 (ix x6 x37)).from_ ≤ x11.from_ then
      if (ix x1 (ix x6 x37)).to ≥ x11.to then
        o1 = .inr (ix x6 x37)
      else
        o1 = .inl (w64 (x37 + 1))
    else
      o1 = .inl (w64 (x37 + 1))
  else
    o1 = .inr (-1)
def trellisref32_first (x1 : List api_Node) (x6 : List Int) (x11 : api_Range) (r : Int) : Prop :=
  Rounds (fun (s : Int) o => trellisref32_first_b1 x6 x1 x11 s o) 0 r
def trellisref32_Way_b1 (x1 : List api_Node) (x6 : api_Range) (x231 : List Int) (x236 : Int) (o1 : Sum ((List Int) × Int) (List Int)) : Prop :=
  if x236 ≥ 0 then
    ∃ x359 : List Int, (x359 = x231 ++ ([x236] : List Int)) ∧
    (x359.length * 8 ≤ 211106232532992) ∧
    ∃ r365 : List Int, (trellisref32_Row x1 x236 r365) ∧
    ∃ r378 : Int, (trellisref32_first x1 r365 x6 r378) ∧
    o1 = .inl (x359, r378)
  else
    o1 = .inr (x231)
def trellisref32_Way (x1 : List api_Node) (x6 : api_Range) (r : List Int) : Prop :=
  ∃ r12 : List Int, (trellisref32_Row x1 (-1) r12) ∧
  ∃ r25 : Int, (trellisref32_first x1 r12 x6 r25) ∧
  Rounds (fun (s : (List Int) × Int) o => trellisref32_Way_b1 x1 x6 s.1 s.2 o) (([] : List Int), r25) r
def trellisref32_Grow_b1 (r32 : List Int) (x1 : List api_Node) (x6 : api_Range) (x139 : Int) (x140 : Int) (x141 : Int) (o1 : Sum (Int × Int × Int) api_Range) : Prop :=
  if x139 < (r32.length : Int) then
    (0 ≤ x139 ∧ x139 < (r32.length : Int)) ∧
    (0 ≤ ix r32 x139 ∧ ix r32 x139 < (x1.length : Int)) ∧
    ∃ r247 : api_Range, (trellisref32_taken x6 r247) ∧
    if (ix x1 (ix r32 x139)).from_ = r247.from_ then
      ∃ r256 : api_Range, (trellisref32_taken x6 r256) ∧
      if (ix x1 (ix r32 x139)).to = r256.to then
        o1 = .inl (w64 (x139 + 1), x140, x141)
      else
        o1 = .inl (w64 (x139 + 1), (ix x1 (ix r32 x139)).from_, (ix x1 (ix r32 x139)).to)
    else
      o1 = .inl (w64 (x139 + 1), (ix x1 (ix r32 x139)).from_, (ix x1 (ix r32 x139)).to)
  else
    o1 = .inr ((⟨x140, x141⟩ : api_Range))
def trellisref32_Grow (x1 : List api_Node) (x6 : api_Range) (r : api_Range) : Prop :=
  ∃ r14 : api_Range, (trellisref32_taken x6 r14) ∧
  ∃ r24 : api_Range, (trellisref32_taken x6 r24) ∧
  ∃ r32 : List Int, (trellisref32_Way x1 r24 r32) ∧
  Rounds (fun (s : Int × Int × Int) o => trellisref32_Grow_b1 r32 x1 x6 s.1 s.2.1 s.2.2 o) (0, r14.from_, r14.to) r
def trellisref32_Steps_b1 (x1 : List api_Node) (x44 : List api_Range) (o1 : Sum (List api_Range) (List api_Range)) : Prop :=
  (0 ≤ w64 ((x44.length : Int) - 1) ∧ w64 ((x44.length : Int) - 1) < (x44.length : Int)) ∧
  ∃ r78 : api_Range, (trellisref32_Grow x1 (ix x44 (w64 ((x44.length : Int) - 1))) r78) ∧
  if r78 = ix x44 (w64 ((x44.length : Int) - 1)) then
    o1 = .inr (x44)
  else
    ∃ x92 : List api_Range, (x92 = x44 ++ ([r78] : List api_Range)) ∧
    (x92.length * 16 ≤ 211106232532992) ∧
    o1 = .inl x92
def trellisref32_Steps (x1 : List api_Node) (x6 : api_Range) (r : List api_Range) : Prop :=
  ∃ r12 : api_Range, (trellisref32_taken x6 r12) ∧
  Rounds (fun (s : (List api_Range)) o => trellisref32_Steps_b1 x1 s o) ([r12] : List api_Range) r
def trellisref32_Cover (x1 : List api_Node) (x6 : api_Range) (r : Int) : Prop :=
  ∃ r12 : api_Range, (trellisref32_taken x6 r12) ∧
  ∃ r20 : List Int, (trellisref32_Way x1 r12 r20) ∧
  if (r20.length : Int) = 0 then
    r = -1
  else
    (0 ≤ w64 ((r20.length : Int) - 1) ∧ w64 ((r20.length : Int) - 1) < (r20.length : Int)) ∧
    r = ix r20 (w64 ((r20.length : Int) - 1))
def trellislaw32_sameRanges_b1 (x1 : List api_Range) (x6 : List api_Range) (x23 : Int) (o1 : Sum Int Bool) : Prop :=
  if x23 < (x1.length : Int) then
    (0 ≤ x23 ∧ x23 < (x1.length : Int)) ∧
    (0 ≤ x23 ∧ x23 < (x6.length : Int)) ∧
    if ix x1 x23 = ix x6 x23 then
      o1 = .inl (w64 (x23 + 1))
    else
      o1 = .inr (false)
  else
    o1 = .inr (true)
def trellislaw32_sameRanges (x1 : List api_Range) (x6 : List api_Range) (r : Bool) : Prop :=
  if (x1.length : Int) = (x6.length : Int) then
    Rounds (fun (s : Int) o => trellislaw32_sameRanges_b1 x1 x6 s o) 0 r
  else
    r = false
def trellislaw32_same_b1 (x1 : List api_Node) (x6 : List api_Node) (x23 : Int) (o1 : Sum Int Bool) : Prop :=
  if x23 < (x1.length : Int) then
    (0 ≤ x23 ∧ x23 < (x1.length : Int)) ∧
    (0 ≤ x23 ∧ x23 < (x6.length : Int)) ∧
    if ix x1 x23 = ix x6 x23 then
      o1 = .inl (w64 (x23 + 1))
    else
      o1 = .inr (false)
  else
    o1 = .inr (true)
def trellislaw32_same (x1 : List api_Node) (x6 : List api_Node) (r : Bool) : Prop :=
  if (x1.length : Int) = (x6.length : Int) then
    Rounds (fun (s : Int) o => trellislaw32_same_b1 x1 x6 s o) 0 r
  else
    r = false
def trellislaw32_still_b1 (x9 : List api_Node) (x1 : List api_Node) (k6 : Nat) (x21 : Int) (o1 : Sum Int Bool) : Prop :=
  if x21 < 20 then
    (0 ≤ w64 ((x9.length : Int) + x21) ∧ w64 ((x9.length : Int) + x21) < ((x1.take ((w64 ((x9.length : Int) + 20) : Int).toNat)).length : Int)) ∧
    if ix (x1.take ((w64 ((x9.length : Int) + 20) : Int).toNat)) (w64 ((x9.length : Int) + x21)) = (⟨(⟨#[109, 97, 114, 107]⟩ : ByteArray), false, (⟨#[]⟩ : ByteArray), w64 (900 + x21), 0, 0, 0⟩ : api_Node) then
      o1 = .inl (w64 (x21 + 1))
    else
      o1 = .inr (false)
  else
    ∃ r41 : Bool, (trellislaw32_same (x1.take k6) x9 r41) ∧
    o1 = .inr (r41)
def trellislaw32_still (x1 : List api_Node) (k6 : Nat) (x9 : List api_Node) (r : Bool) : Prop :=
  (0 ≤ w64 ((x9.length : Int) + 20) ∧ w64 ((x9.length : Int) + 20) ≤ (x1.length : Int)) ∧
  Rounds (fun (s : Int) o => trellislaw32_still_b1 x9 x1 k6 s o) 0 r
def trellislaw32_over_b1 (k8 : Nat) (x34 : List api_Node) (x36 : Int) (o1 : Sum ((List api_Node) × Int) (List api_Node)) : Prop :=
  if x36 < ((x34.take k8).length : Int) then
    (0 ≤ w64 (((x34.take k8).length : Int) - 1) ∧ w64 (((x34.take k8).length : Int) - 1) < ((x34.take k8).length : Int)) ∧
    (0 ≤ x36 ∧ x36 < ((x34.take k8).length : Int)) ∧
    ∃ x64 : List api_Node, (x64 = x34.set (x36 : Int).toNat ({ (ix x34 x36) with name := (ix x34 (w64 (((x34.take k8).length : Int) - 1))).name })) ∧
    (0 ≤ w64 (((x64.take k8).length : Int) - 1) ∧ w64 (((x64.take k8).length : Int) - 1) < ((x64.take k8).length : Int)) ∧
    (0 ≤ x36 ∧ x36 < ((x64.take k8).length : Int)) ∧
    ∃ x71 : List api_Node, (x71 = x64.set (x36 : Int).toNat ({ (ix x64 x36) with from_ := (ix x64 (w64 (((x64.take k8).length : Int) - 1))).from_ })) ∧
    (0 ≤ w64 (((x71.take k8).length : Int) - 1) ∧ w64 (((x71.take k8).length : Int) - 1) < ((x71.take k8).length : Int)) ∧
    (0 ≤ x36 ∧ x36 < ((x71.take k8).length : Int)) ∧
    ∃ x78 : List api_Node, (x78 = x71.set (x36 : Int).toNat ({ (ix x71 x36) with to := (ix x71 (w64 (((x71.take k8).length : Int) - 1))).to })) ∧
    o1 = .inl (x78, w64 (x36 + 1))
  else
    o1 = .inr (x34)
def trellislaw32_over (x1 : List api_Node) (k8 : Nat) (r : List api_Node) : Prop :=
  Rounds (fun (s : (List api_Node) × Int) o => trellislaw32_over_b1 k8 s.1 s.2 o) (x1, 0) r
def trellislaw32_grows (x1 : List api_Node) (k6 : Nat) (x9 : api_Range) (r : Bool) : Prop :=
  ∃ r15 : List api_Node, (trellislaw32_twin (x1.take k6) r15) ∧
  ∃ r28 : Int, (trellisref32_Cover r15 x9 r28) ∧
  ∃ r36 : api_Range, (trellisref32_Grow r15 x9 r36) ∧
  ∃ r46 : List api_Range, (trellisref32_Steps r15 x9 r46) ∧
  ∃ r59 : Int, (choose_Cover (x1.take k6) x9 r59) ∧
  if r59 = r28 then
    ∃ r68 : api_Range, (choose_Grow (x1.take k6) x9 r68) ∧
    if r68 = r36 then
      ∃ r77 : List api_Range, (choose_Steps (x1.take k6) x9 r77) ∧
      ∃ r90 : Bool, (trellislaw32_sameRanges r77 r46 r90) ∧
      if r90 = true then
        ∃ r99 : Bool, (trellislaw32_still x1 k6 r15 r99) ∧
        r = r99
      else
        r = false
    else
      r = false
  else
    r = false
def trellislaw32_bare_b1 (k8 : Nat) (x18 : List api_Node) (x20 : Int) (o1 : Sum ((List api_Node) × Int) (List api_Node)) : Prop :=
  if x20 < ((x18.take k8).length : Int) then
    (0 ≤ x20 ∧ x20 < ((x18.take k8).length : Int)) ∧
    ∃ x30 : List api_Node, (x30 = x18.set (x20 : Int).toNat ({ (ix x18 x20) with kids := 0 })) ∧
    o1 = .inl (x30, w64 (x20 + 1))
  else
    o1 = .inr (x18)
def trellislaw32_bare (x1 : List api_Node) (k8 : Nat) (r : List api_Node) : Prop :=
  Rounds (fun (s : (List api_Node) × Int) o => trellislaw32_bare_b1 k8 s.1 s.2 o) (x1, 0) r
def trellislaw32_ChooseGrows_j4 (r34 : (List api_Node) × Nat) (x6 : api_Range) (x907 : Bool) (o2 : Sum ((List api_Range) × Int) (Sum ((List api_Range) × Int) Bool)) : Prop :=
  if x907 = true then
    o2 = .inr (.inr (false))
  else
    ∃ r912 : List api_Node, (trellislaw32_over r34.1 r34.2 r912) ∧
    ∃ r921 : Bool, (trellislaw32_grows r912 r34.2 x6 r921) ∧
    if r921 = true then
      ∃ r930 : List api_Node, (trellislaw32_bare r912 r34.2 r930) ∧
      ∃ r939 : Bool, (trellislaw32_grows r930 r34.2 x6 r939) ∧
      o2 = .inr (.inr (r939))
    else
      o2 = .inr (.inr (false))
def trellislaw32_ChooseGrows_b3 (r371 : List api_Range) (r79 : List api_Range) (r34 : (List api_Node) × Nat) (r21 : List api_Node) (x6 : api_Range) (x786 : List api_Range) (x791 : Int) (o2 : Sum ((List api_Range) × Int) (Sum ((List api_Range) × Int) Bool)) : Prop :=
  if x791 < 70 then
    ∃ x884 : List api_Range, (x884 = x786 ++ ([(⟨92, 0⟩ : api_Range)] : List api_Range)) ∧
    (x884.length * 16 ≤ 211106232532992) ∧
    o2 = .inl (x884, w64 (x791 + 1))
  else
    ∃ r947 : Bool, (trellislaw32_sameRanges r371 r79 r947) ∧
    if r947 = true then
      if (x786.length : Int) = w64 ((r79.length : Int) + 70) then
        ∃ r957 : Bool, (trellislaw32_still r34.1 r34.2 r21 r957) ∧
        trellislaw32_ChooseGrows_j4 r34 x6 (!r957) o2
      else
        trellislaw32_ChooseGrows_j4 r34 x6 true o2
    else
      trellislaw32_ChooseGrows_j4 r34 x6 true o2
def trellislaw32_ChooseGrows_b2 (r371 : List api_Range) (r79 : List api_Range) (r34 : (List api_Node) × Nat) (r21 : List api_Node) (x6 : api_Range) (x575 : List api_Range) (x577 : Int) (o1 : Sum ((List api_Range) × Int) Bool) : Prop :=
  if x577 < (x575.length : Int) then
    (0 ≤ x577 ∧ x577 < (x575.length : Int)) ∧
    ∃ x772 : List api_Range, (x772 = x575.set (x577 : Int).toNat (⟨91, 0⟩ : api_Range)) ∧
    o1 = .inl (x772, w64 (x577 + 1))
  else
    Rounds (fun (s : (List api_Range) × Int) o => trellislaw32_ChooseGrows_b3 r371 r79 r34 r21 x6 s.1 s.2 o) (x575, 0) o1
def trellislaw32_ChooseGrows_j1 (r34 : (List api_Node) × Nat) (x6 : api_Range) (r79 : List api_Range) (r21 : List api_Node) (r66 : List api_Range) (x366 : Bool) (r : Bool) : Prop :=
  if x366 = true then
    r = false
  else
    ∃ r371 : List api_Range, (choose_Steps (r34.1.take r34.2) x6 r371) ∧
    Rounds (fun (s : (List api_Range) × Int) o => trellislaw32_ChooseGrows_b2 r371 r79 r34 r21 x6 s.1 s.2 o) (r66, 0) r
def trellislaw32_ChooseGrows (x1 : List api_Node) (x6 : api_Range) (r : Bool) : Prop :=
  ∃ r12 : Bool, (trellisref15_Beyond x1 r12) ∧
  if r12 = true then
    r = true
  else
    ∃ r21 : List api_Node, (trellislaw32_twin x1 r21) ∧
    ∃ r34 : (List api_Node) × Nat, (trellislaw32_lent x1 r34) ∧
    ∃ r48 : Int, (choose_Cover (r34.1.take r34.2) x6 r48) ∧
    ∃ r56 : api_Range, (choose_Grow (r34.1.take r34.2) x6 r56) ∧
    ∃ r66 : List api_Range, (choose_Steps (r34.1.take r34.2) x6 r66) ∧
    ∃ r79 : List api_Range, (trellisref32_Steps r21 x6 r79) ∧
    ∃ r965 : Int, (trellisref32_Cover r21 x6 r965) ∧
    if r48 = r965 then
      ∃ r974 : api_Range, (trellisref32_Grow r21 x6 r974) ∧
      if r56 = r974 then
        ∃ r983 : Bool, (trellislaw32_sameRanges r66 r79 r983) ∧
        if r983 = true then
          ∃ r992 : Bool, (trellislaw32_still r34.1 r34.2 r21 r992) ∧
          trellislaw32_ChooseGrows_j1 r34 x6 r79 r21 r66 (!r992) r
        else
          trellislaw32_ChooseGrows_j1 r34 x6 r79 r21 r66 true r
      else
        trellislaw32_ChooseGrows_j1 r34 x6 r79 r21 r66 true r
    else
      trellislaw32_ChooseGrows_j1 r34 x6 r79 r21 r66 true r
def trellisref32_beside_j1 (x1 : List api_Node) (x6 : Int) (x18 : Bool) (r : List Int) : Prop :=
  if x18 = true then
    r = ([] : List Int)
  else
    ∃ r23 : Int, (trellisref15_Parent x1 x6 r23) ∧
    ∃ r31 : List Int, (trellisref32_Row x1 r23 r31) ∧
    r = r31
def trellisref32_beside (x1 : List api_Node) (x6 : Int) (r : List Int) : Prop :=
  if x6 < 0 then
    trellisref32_beside_j1 x1 x6 true r
  else
    if x6 ≥ (x1.length : Int) then
      trellisref32_beside_j1 x1 x6 true r
    else
      ∃ r46 : Int, (trellisref15_Roots x1 r46) ∧
      trellisref32_beside_j1 x1 x6 (decide (r46 < 0)) r
def trellisref32_place_b1 (x1 : List Int) (x6 : Int) (x12 : Int) (o1 : Sum Int Int) : Prop :=
  if x12 < (x1.length : Int) then
    (0 ≤ x12 ∧ x12 < (x1.length : Int)) ∧
    if ix x1 x12 = x6 then
      o1 = .inr (x12)
    else
      o1 = .inl (w64 (x12 + 1))
  else
    o1 = .inr (-1)
def trellisref32_place (x1 : List Int) (x6 : Int) (r : Int) : Prop :=
  Rounds (fun (s : Int) o => trellisref32_place_b1 x1 x6 s o) 0 r
def trellisref32_Beside_j1 (r24 : Int) (x7 : Int) (r11 : List Int) (x34 : Bool) (r : Int) : Prop :=
  if x34 = true then
    r = -1
  else
    (0 ≤ w64 (r24 + x7) ∧ w64 (r24 + x7) < (r11.length : Int)) ∧
    r = ix r11 (w64 (r24 + x7))
def trellisref32_Beside (x1 : List api_Node) (x6 : Int) (x7 : Int) (r : Int) : Prop :=
  ∃ r11 : List Int, (trellisref32_beside x1 x6 r11) ∧
  ∃ r24 : Int, (trellisref32_place r11 x6 r24) ∧
  if r24 < 0 then
    trellisref32_Beside_j1 r24 x7 r11 true r
  else
    if x7 > (r11.length : Int) then
      trellisref32_Beside_j1 r24 x7 r11 true r
    else
      if x7 < w64 (0 - (r11.length : Int)) then
        trellisref32_Beside_j1 r24 x7 r11 true r
      else
        if w64 (r24 + x7) < 0 then
          trellisref32_Beside_j1 r24 x7 r11 true r
        else
          trellisref32_Beside_j1 r24 x7 r11 (decide (w64 (r24 + x7) ≥ (r11.length : Int))) r
def trellisref32_kind_b1 (x1 : api_Node) (x6 : Int → ByteArray) (x12 : Int) (o1 : Sum Int Int) : Prop :=
  if x12 < 7 then
    if x1.named = true then
      o1 = .inl (w64 (x12 + 1))
    else
      (0 ≤ x12 ∧ x12 < 7) ∧
      if x1.name = x6 x12 then
        if x12 = 3 then
          o1 = .inl (w64 (x12 + 1))
        else
          o1 = .inr (w64 (x12 - 3))
      else
        o1 = .inl (w64 (x12 + 1))
  else
    o1 = .inr (0)
def trellisref32_kind (x1 : api_Node) (r : Int) : Prop :=
  ∃ x6 : Int → ByteArray, (x6 = (arrL ([(⟨#[125]⟩ : ByteArray), (⟨#[93]⟩ : ByteArray), (⟨#[41]⟩ : ByteArray), (⟨#[]⟩ : ByteArray), (⟨#[40]⟩ : ByteArray), (⟨#[91]⟩ : ByteArray), (⟨#[123]⟩ : ByteArray)] : List ByteArray))) ∧
  Rounds (fun (s : Int) o => trellisref32_kind_b1 x1 x6 s o) 0 r
def trellisref32_Pair_j3 (x200 : List Int) (x6 : Int) (r10 : List Int) (x102 : Int) (x219 : Bool) (o1 : Sum ((List Int) × Int) Int) : Prop :=
  if x219 = true then
    (0 ≤ w64 ((x200.length : Int) - 1) ∧ w64 ((x200.length : Int) - 1) < (x200.length : Int)) ∧
    (0 ≤ (0 : Int) ∧ (0 : Int) ≤ w64 ((x200.length : Int) - 1) ∧ w64 ((x200.length : Int) - 1) ≤ (x200.length : Int)) ∧
    ∃ x224 : List Int, (x224 = x200.take (w64 ((x200.length : Int) - 1) : Int).toNat) ∧
    if ix x200 (w64 ((x200.length : Int) - 1)) = x6 then
      o1 = .inr (ix r10 x102)
    else
      if ix r10 x102 = x6 then
        o1 = .inr (ix x200 (w64 ((x200.length : Int) - 1)))
      else
        o1 = .inl (x224, w64 (x102 + 1))
  else
    o1 = .inl (x200, w64 (x102 + 1))
def trellisref32_Pair_j2 (r184 : Int) (x1 : List api_Node) (x6 : Int) (r10 : List Int) (x102 : Int) (x200 : List Int) (o1 : Sum ((List Int) × Int) Int) : Prop :=
  if r184 < 0 then
    if (x200.length : Int) > 0 then
      (0 ≤ w64 ((x200.length : Int) - 1) ∧ w64 ((x200.length : Int) - 1) < (x200.length : Int)) ∧
      (0 ≤ ix x200 (w64 ((x200.length : Int) - 1)) ∧ ix x200 (w64 ((x200.length : Int) - 1)) < (x1.length : Int)) ∧
      ∃ r238 : Int, (trellisref32_kind (ix x1 (ix x200 (w64 ((x200.length : Int) - 1)))) r238) ∧
      trellisref32_Pair_j3 x200 x6 r10 x102 (r238 == (w64 (0 - r184))) o1
    else
      trellisref32_Pair_j3 x200 x6 r10 x102 false o1
  else
    trellisref32_Pair_j3 x200 x6 r10 x102 false o1
def trellisref32_Pair_b1 (r10 : List Int) (x1 : List api_Node) (x6 : Int) (x97 : List Int) (x102 : Int) (o1 : Sum ((List Int) × Int) Int) : Prop :=
  if x102 < (r10.length : Int) then
    (0 ≤ x102 ∧ x102 < (r10.length : Int)) ∧
    (0 ≤ ix r10 x102 ∧ ix r10 x102 < (x1.length : Int)) ∧
    ∃ r184 : Int, (trellisref32_kind (ix x1 (ix r10 x102)) r184) ∧
    if r184 > 0 then
      ∃ x249 : List Int, (x249 = x97 ++ ([ix r10 x102] : List Int)) ∧
      (x249.length * 8 ≤ 211106232532992) ∧
      trellisref32_Pair_j2 r184 x1 x6 r10 x102 x249 o1
    else
      trellisref32_Pair_j2 r184 x1 x6 r10 x102 x97 o1
  else
    o1 = .inr (-1)
def trellisref32_Pair (x1 : List api_Node) (x6 : Int) (r : Int) : Prop :=
  ∃ r10 : List Int, (trellisref32_beside x1 x6 r10) ∧
  Rounds (fun (s : (List Int) × Int) o => trellisref32_Pair_b1 r10 x1 x6 s.1 s.2 o) (([] : List Int), 0) r
def tree_forest_has (x1 : tree_forest) (x14 : Int) (r : Bool) : Prop :=
  if x1.ok = true then
    if x14 ≥ 0 then
      r = decide (x14 < (x1.nodes.length : Int))
    else
      r = false
  else
    r = false
def tree_Parent (x1 : List api_Node) (x6 : Int) (r : Int) : Prop :=
  ∃ r10 : tree_forest, (tree_plant x1 r10) ∧
  ∃ r36 : Bool, (tree_forest_has r10 x6 r36) ∧
  if r36 = true then
    (0 ≤ x6 ∧ x6 < (r10.parent.length : Int)) ∧
    r = ix r10.parent x6
  else
    r = -1
def tree_Kids (x1 : List api_Node) (x6 : Int) (r : List Int) : Prop :=
  ∃ r10 : tree_forest, (tree_plant x1 r10) ∧
  ∃ r36 : Bool, (tree_forest_has r10 x6 r36) ∧
  if r36 = true then
    (0 ≤ x6 ∧ x6 < (r10.end_.length : Int)) ∧
    ∃ r46 : List Int, (tree_forest_beside r10 (w64 (x6 + 1)) (ix r10.end_ x6) r46) ∧
    r = r46
  else
    r = ([] : List Int)
def choose_row_b2 (x1 : List api_Node) (r10 : List Int) (x59 : List Int) (x64 : Int) (o1 : Sum ((List Int) × Int) (List Int)) : Prop :=
  if x64 < (x1.length : Int) then
    ∃ x83 : List Int, (x83 = x59 ++ ([x64] : List Int)) ∧
    (x83.length * 8 ≤ 211106232532992) ∧
    (0 ≤ x64 ∧ x64 < (r10.length : Int)) ∧
    o1 = .inl (x83, w64 (x64 + (ix r10 x64)))
  else
    o1 = .inr (x59)
def choose_row_j1 (x1 : List api_Node) (x6 : Int) (r10 : List Int) (x22 : Bool) (r : List Int) : Prop :=
  if x22 = true then
    r = ([] : List Int)
  else
    ∃ r27 : Int, (tree_Parent x1 x6 r27) ∧
    if r27 ≥ 0 then
      ∃ r36 : List Int, (tree_Kids x1 r27 r36) ∧
      r = r36
    else
      Rounds (fun (s : (List Int) × Int) o => choose_row_b2 x1 r10 s.1 s.2 o) (([] : List Int), 0) r
def choose_row (x1 : List api_Node) (x6 : Int) (r : List Int) : Prop :=
  ∃ r10 : List Int, (choose_sizes x1 r10) ∧
  if x6 < 0 then
    choose_row_j1 x1 x6 r10 true r
  else
    choose_row_j1 x1 x6 r10 (decide (x6 ≥ (r10.length : Int))) r
def slices_Index_int_int_b1 (x1 : List Int) (x6 : Int) (x12 : Int) (o1 : Sum Int Int) : Prop :=
  if x12 < (x1.length : Int) then
    (0 ≤ x12 ∧ x12 < (x1.length : Int)) ∧
    if x6 = ix x1 x12 then
      o1 = .inr (x12)
    else
      o1 = .inl (w64 (x12 + 1))
  else
    o1 = .inr (-1)
def slices_Index_int_int (x1 : List Int) (x6 : Int) (r : Int) : Prop :=
  Rounds (fun (s : Int) o => slices_Index_int_int_b1 x1 x6 s o) 0 r
def choose_Beside_j1 (r24 : Int) (x7 : Int) (r11 : List Int) (x32 : Bool) (r : Int) : Prop :=
  if x32 = true then
    r = -1
  else
    (0 ≤ w64 (r24 + x7) ∧ w64 (r24 + x7) < (r11.length : Int)) ∧
    r = ix r11 (w64 (r24 + x7))
def choose_Beside (x1 : List api_Node) (x6 : Int) (x7 : Int) (r : Int) : Prop :=
  ∃ r11 : List Int, (choose_row x1 x6 r11) ∧
  ∃ r24 : Int, (slices_Index_int_int r11 x6 r24) ∧
  if r24 < 0 then
    choose_Beside_j1 r24 x7 r11 true r
  else
    if x7 < w64 (0 - r24) then
      choose_Beside_j1 r24 x7 r11 true r
    else
      choose_Beside_j1 r24 x7 r11 (decide (x7 > w64 ((w64 ((r11.length : Int) - 1)) - r24))) r
def choose_opens (x1 : ByteArray) (r : ByteArray) : Prop :=
  if x1 = (⟨#[41]⟩ : ByteArray) then
    r = (⟨#[40]⟩ : ByteArray)
  else
    if x1 = (⟨#[93]⟩ : ByteArray) then
      r = (⟨#[91]⟩ : ByteArray)
    else
      r = (⟨#[123]⟩ : ByteArray)
def choose_Pair_j4 (x54 : List Int) (x59 : Int) (x6 : Int) (r10 : List Int) (x241 : Bool) (o1 : Sum ((List Int) × Int) Int) : Prop :=
  if x241 = true then
    o1 = .inl (x54, w64 (x59 + 1))
  else
    if x6 = ix r10 x59 then
      (0 ≤ w64 ((x54.length : Int) - 1) ∧ w64 ((x54.length : Int) - 1) < (x54.length : Int)) ∧
      o1 = .inr (ix x54 (w64 ((x54.length : Int) - 1)))
    else
      (0 ≤ w64 ((x54.length : Int) - 1) ∧ w64 ((x54.length : Int) - 1) < (x54.length : Int)) ∧
      if x6 = ix x54 (w64 ((x54.length : Int) - 1)) then
        o1 = .inr (ix r10 x59)
      else
        (0 ≤ (0 : Int) ∧ (0 : Int) ≤ w64 ((x54.length : Int) - 1) ∧ w64 ((x54.length : Int) - 1) ≤ (x54.length : Int)) ∧
        ∃ x249 : List Int, (x249 = x54.take (w64 ((x54.length : Int) - 1) : Int).toNat) ∧
        o1 = .inl (x249, w64 (x59 + 1))
def choose_Pair_j3 (x54 : List Int) (x59 : Int) (x6 : Int) (r10 : List Int) (x1 : List api_Node) (x200 : Bool) (o1 : Sum ((List Int) × Int) Int) : Prop :=
  if x200 = true then
    if w64 ((x54.length : Int) - 1) < 0 then
      choose_Pair_j4 x54 x59 x6 r10 true o1
    else
      (0 ≤ w64 ((x54.length : Int) - 1) ∧ w64 ((x54.length : Int) - 1) < (x54.length : Int)) ∧
      (0 ≤ ix x54 (w64 ((x54.length : Int) - 1)) ∧ ix x54 (w64 ((x54.length : Int) - 1)) < (x1.length : Int)) ∧
      ∃ r260 : ByteArray, (choose_opens ((ix x1 (ix r10 x59)).name) r260) ∧
      choose_Pair_j4 x54 x59 x6 r10 (!(seq ((ix x1 (ix x54 (w64 ((x54.length : Int) - 1)))).name) r260)) o1
  else
    o1 = .inl (x54, w64 (x59 + 1))
def choose_Pair_j2 (x54 : List Int) (r10 : List Int) (x59 : Int) (x1 : List api_Node) (x6 : Int) (x186 : Bool) (o1 : Sum ((List Int) × Int) Int) : Prop :=
  if x186 = true then
    ∃ x194 : List Int, (x194 = x54 ++ ([ix r10 x59] : List Int)) ∧
    (x194.length * 8 ≤ 211106232532992) ∧
    o1 = .inl (x194, w64 (x59 + 1))
  else
    if (ix x1 (ix r10 x59)).name = (⟨#[41]⟩ : ByteArray) then
      choose_Pair_j3 x54 x59 x6 r10 x1 (seq ((ix x1 (ix r10 x59)).name) (⟨#[41]⟩ : ByteArray)) o1
    else
      if (ix x1 (ix r10 x59)).name = (⟨#[93]⟩ : ByteArray) then
        choose_Pair_j3 x54 x59 x6 r10 x1 (seq ((ix x1 (ix r10 x59)).name) (⟨#[93]⟩ : ByteArray)) o1
      else
        choose_Pair_j3 x54 x59 x6 r10 x1 (seq ((ix x1 (ix r10 x59)).name) (⟨#[125]⟩ : ByteArray)) o1
def choose_Pair_b1 (r10 : List Int) (x1 : List api_Node) (x6 : Int) (x54 : List Int) (x59 : Int) (o1 : Sum ((List Int) × Int) Int) : Prop :=
  if x59 < (r10.length : Int) then
    (0 ≤ x59 ∧ x59 < (r10.length : Int)) ∧
    (0 ≤ ix r10 x59 ∧ ix r10 x59 < (x1.length : Int)) ∧
    if ((ix x1 (ix r10 x59)).named) = true then
      o1 = .inl (x54, w64 (x59 + 1))
    else
      if (ix x1 (ix r10 x59)).name = (⟨#[40]⟩ : ByteArray) then
        choose_Pair_j2 x54 r10 x59 x1 x6 (seq ((ix x1 (ix r10 x59)).name) (⟨#[40]⟩ : ByteArray)) o1
      else
        if (ix x1 (ix r10 x59)).name = (⟨#[91]⟩ : ByteArray) then
          choose_Pair_j2 x54 r10 x59 x1 x6 (seq ((ix x1 (ix r10 x59)).name) (⟨#[91]⟩ : ByteArray)) o1
        else
          choose_Pair_j2 x54 r10 x59 x1 x6 (seq ((ix x1 (ix r10 x59)).name) (⟨#[123]⟩ : ByteArray)) o1
  else
    o1 = .inr (-1)
def choose_Pair (x1 : List api_Node) (x6 : Int) (r : Int) : Prop :=
  ∃ r10 : List Int, (choose_row x1 x6 r10) ∧
  Rounds (fun (s : (List Int) × Int) o => choose_Pair_b1 r10 x1 x6 s.1 s.2 o) (([] : List Int), 0) r
def trellislaw32_walks (x1 : List api_Node) (k6 : Nat) (x9 : Int) (x10 : Int) (r : Bool) : Prop :=
  ∃ r14 : List api_Node, (trellislaw32_twin (x1.take k6) r14) ∧
  ∃ r27 : Int, (trellisref32_Beside r14 x9 x10 r27) ∧
  ∃ r35 : Int, (trellisref32_Pair r14 x9 r35) ∧
  ∃ r43 : Int, (choose_Beside (x1.take k6) x9 x10 r43) ∧
  if r43 = r27 then
    ∃ r52 : Int, (choose_Pair (x1.take k6) x9 r52) ∧
    if r52 = r35 then
      ∃ r61 : Bool, (trellislaw32_still x1 k6 r14 r61) ∧
      r = r61
    else
      r = false
  else
    r = false
def trellislaw32_ChooseWalks_j1 (r20 : (List api_Node) × Nat) (x6 : Int) (x7 : Int) (x50 : Bool) (r : Bool) : Prop :=
  if x50 = true then
    r = false
  else
    ∃ r55 : List api_Node, (trellislaw32_over r20.1 r20.2 r55) ∧
    ∃ r64 : Bool, (trellislaw32_walks r55 r20.2 x6 x7 r64) ∧
    if r64 = true then
      ∃ r73 : List api_Node, (trellislaw32_bare r55 r20.2 r73) ∧
      ∃ r82 : Bool, (trellislaw32_walks r73 r20.2 x6 x7 r82) ∧
      r = r82
    else
      r = false
def trellislaw32_ChooseWalks (x1 : List api_Node) (x6 : Int) (x7 : Int) (r : Bool) : Prop :=
  ∃ r11 : Bool, (trellisref15_Beyond x1 r11) ∧
  if r11 = true then
    r = true
  else
    ∃ r20 : (List api_Node) × Nat, (trellislaw32_lent x1 r20) ∧
    ∃ r90 : Bool, (trellislaw32_walks r20.1 r20.2 x6 x7 r90) ∧
    if r90 = true then
      ∃ r99 : Bool, (trellislaw32_same (r20.1.take r20.2) x1 r99) ∧
      trellislaw32_ChooseWalks_j1 r20 x6 x7 (!r99) r
    else
      trellislaw32_ChooseWalks_j1 r20 x6 x7 true r
def trellislaw32_started_j1 (x36 : Bool) (r : Bool) : Prop :=
  if x36 = true then
    r = false
  else
    ∃ r41 : Int, (choose_Pair ([(⟨(⟨#[115]⟩ : ByteArray), true, (⟨#[]⟩ : ByteArray), 0, 3, 3, -1⟩ : api_Node), (⟨(⟨#[40]⟩ : ByteArray), false, (⟨#[]⟩ : ByteArray), 0, 1, 0, 0⟩ : api_Node), (⟨(⟨#[97]⟩ : ByteArray), true, (⟨#[]⟩ : ByteArray), 1, 2, 0, 1⟩ : api_Node), (⟨(⟨#[41]⟩ : ByteArray), false, (⟨#[]⟩ : ByteArray), 2, 3, 0, 2⟩ : api_Node)] : List api_Node) 1 r41) ∧
    if r41 = 3 then
      ∃ r50 : Int, (choose_Pair ([(⟨(⟨#[115]⟩ : ByteArray), true, (⟨#[]⟩ : ByteArray), 0, 3, 3, -1⟩ : api_Node), (⟨(⟨#[40]⟩ : ByteArray), false, (⟨#[]⟩ : ByteArray), 0, 1, 0, 0⟩ : api_Node), (⟨(⟨#[97]⟩ : ByteArray), true, (⟨#[]⟩ : ByteArray), 1, 2, 0, 1⟩ : api_Node), (⟨(⟨#[41]⟩ : ByteArray), false, (⟨#[]⟩ : ByteArray), 2, 3, 0, 2⟩ : api_Node)] : List api_Node) 3 r50) ∧
      if r50 = 1 then
        ∃ r59 : Int, (choose_Beside ([(⟨(⟨#[115]⟩ : ByteArray), true, (⟨#[]⟩ : ByteArray), 0, 3, 3, -1⟩ : api_Node), (⟨(⟨#[40]⟩ : ByteArray), false, (⟨#[]⟩ : ByteArray), 0, 1, 0, 0⟩ : api_Node), (⟨(⟨#[97]⟩ : ByteArray), true, (⟨#[]⟩ : ByteArray), 1, 2, 0, 1⟩ : api_Node), (⟨(⟨#[41]⟩ : ByteArray), false, (⟨#[]⟩ : ByteArray), 2, 3, 0, 2⟩ : api_Node)] : List api_Node) 1 2 r59) ∧
        if r59 = 3 then
          ∃ r68 : Int, (choose_Beside ([(⟨(⟨#[115]⟩ : ByteArray), true, (⟨#[]⟩ : ByteArray), 0, 3, 3, -1⟩ : api_Node), (⟨(⟨#[40]⟩ : ByteArray), false, (⟨#[]⟩ : ByteArray), 0, 1, 0, 0⟩ : api_Node), (⟨(⟨#[97]⟩ : ByteArray), true, (⟨#[]⟩ : ByteArray), 1, 2, 0, 1⟩ : api_Node), (⟨(⟨#[41]⟩ : ByteArray), false, (⟨#[]⟩ : ByteArray), 2, 3, 0, 2⟩ : api_Node)] : List api_Node) 3 1 r68) ∧
          r = (r68 == (-1))
        else
          r = false
      else
        r = false
    else
      r = false
def trellislaw32_started  (r : Bool) : Prop :=
  ∃ r7 : List api_Range, (choose_Steps ([(⟨(⟨#[115]⟩ : ByteArray), true, (⟨#[]⟩ : ByteArray), 0, 3, 3, -1⟩ : api_Node), (⟨(⟨#[40]⟩ : ByteArray), false, (⟨#[]⟩ : ByteArray), 0, 1, 0, 0⟩ : api_Node), (⟨(⟨#[97]⟩ : ByteArray), true, (⟨#[]⟩ : ByteArray), 1, 2, 0, 1⟩ : api_Node), (⟨(⟨#[41]⟩ : ByteArray), false, (⟨#[]⟩ : ByteArray), 2, 3, 0, 2⟩ : api_Node)] : List api_Node) (⟨1, 2⟩ : api_Range) r7) ∧
  ∃ r76 : Int, (choose_Cover ([(⟨(⟨#[115]⟩ : ByteArray), true, (⟨#[]⟩ : ByteArray), 0, 3, 3, -1⟩ : api_Node), (⟨(⟨#[40]⟩ : ByteArray), false, (⟨#[]⟩ : ByteArray), 0, 1, 0, 0⟩ : api_Node), (⟨(⟨#[97]⟩ : ByteArray), true, (⟨#[]⟩ : ByteArray), 1, 2, 0, 1⟩ : api_Node), (⟨(⟨#[41]⟩ : ByteArray), false, (⟨#[]⟩ : ByteArray), 2, 3, 0, 2⟩ : api_Node)] : List api_Node) (⟨1, 2⟩ : api_Range) r76) ∧
  if r76 = 2 then
    ∃ r85 : api_Range, (choose_Grow ([(⟨(⟨#[115]⟩ : ByteArray), true, (⟨#[]⟩ : ByteArray), 0, 3, 3, -1⟩ : api_Node), (⟨(⟨#[40]⟩ : ByteArray), false, (⟨#[]⟩ : ByteArray), 0, 1, 0, 0⟩ : api_Node), (⟨(⟨#[97]⟩ : ByteArray), true, (⟨#[]⟩ : ByteArray), 1, 2, 0, 1⟩ : api_Node), (⟨(⟨#[41]⟩ : ByteArray), false, (⟨#[]⟩ : ByteArray), 2, 3, 0, 2⟩ : api_Node)] : List api_Node) (⟨1, 2⟩ : api_Range) r85) ∧
    if r85 = (⟨0, 3⟩ : api_Range) then
      trellislaw32_started_j1 ((r7.length : Int) != 2) r
    else
      trellislaw32_started_j1 true r
  else
    trellislaw32_started_j1 true r
def trellislaw32_within (x1 : api_Range) (x2 : api_Range) (r : Bool) : Prop :=
  if x2.from_ ≤ x1.from_ then
    r = decide (x1.to ≤ x2.to)
  else
    r = false
def trellislaw32_ChooseMore_b4 (x1 : List api_Node) (x476 : Int) (r30 : List api_Range) (x1082 : Bool) (x1083 : Int) (o2 : Sum (Bool × Int) (Sum Int Bool)) : Prop :=
  if x1083 < (x1.length : Int) then
    (0 ≤ x1083 ∧ x1083 < (x1.length : Int)) ∧
    (0 ≤ x476 ∧ x476 < (r30.length : Int)) ∧
    if (ix x1 x1083).from_ = (ix r30 x476).from_ then
      if (ix x1 x1083).to = (ix r30 x476).to then
        o2 = .inl (true, w64 (x1083 + 1))
      else
        o2 = .inl (x1082, w64 (x1083 + 1))
    else
      o2 = .inl (x1082, w64 (x1083 + 1))
  else
    if x1082 = true then
      o2 = .inr (.inl (w64 (x476 + 1)))
    else
      o2 = .inr (.inr (false))
def trellislaw32_ChooseMore_j3 (x1 : List api_Node) (x476 : Int) (r30 : List api_Range) (x1066 : Bool) (o1 : Sum Int Bool) : Prop :=
  if x1066 = true then
    o1 = .inr (false)
  else
    Rounds (fun (s : Bool × Int) o => trellislaw32_ChooseMore_b4 x1 x476 r30 s.1 s.2 o) (false, 0) o1
def trellislaw32_ChooseMore_b2 (r30 : List api_Range) (x1 : List api_Node) (x476 : Int) (o1 : Sum Int Bool) : Prop :=
  if x476 < (r30.length : Int) then
    (0 ≤ w64 (x476 - 1) ∧ w64 (x476 - 1) < (r30.length : Int)) ∧
    (0 ≤ x476 ∧ x476 < (r30.length : Int)) ∧
    ∃ r1117 : Bool, (trellislaw32_within (ix r30 (w64 (x476 - 1))) (ix r30 x476) r1117) ∧
    if r1117 = true then
      if ix r30 x476 = ix r30 (w64 (x476 - 1)) then
        trellislaw32_ChooseMore_j3 x1 x476 r30 true o1
      else
        ∃ r1151 : api_Range, (choose_Grow x1 (ix r30 (w64 (x476 - 1))) r1151) ∧
        trellislaw32_ChooseMore_j3 x1 x476 r30 (!(decide (r1151 = ix r30 x476))) o1
    else
      trellislaw32_ChooseMore_j3 x1 x476 r30 true o1
  else
    (0 ≤ w64 ((r30.length : Int) - 1) ∧ w64 ((r30.length : Int) - 1) < (r30.length : Int)) ∧
    ∃ r1282 : api_Range, (choose_Grow x1 (ix r30 (w64 ((r30.length : Int) - 1))) r1282) ∧
    o1 = .inr (decide (r1282 = ix r30 (w64 ((r30.length : Int) - 1))))
def trellislaw32_ChooseMore_j1 (r30 : List api_Range) (x1 : List api_Node) (x50 : Bool) (r : Bool) : Prop :=
  if x50 = true then
    r = false
  else
    Rounds (fun (s : Int) o => trellislaw32_ChooseMore_b2 r30 x1 s o) 1 r
def trellislaw32_ChooseMore (x1 : List api_Node) (x6 : api_Range) (r : Bool) : Prop :=
  ∃ r12 : Bool, (trellislaw32_started  r12) ∧
  if r12 = true then
    ∃ r21 : Bool, (trellisref15_Beyond x1 r21) ∧
    if r21 = true then
      r = true
    else
      ∃ r30 : List api_Range, (choose_Steps x1 x6 r30) ∧
      if (r30.length : Int) = 0 then
        trellislaw32_ChooseMore_j1 r30 x1 true r
      else
        if (r30.length : Int) > w64 ((x1.length : Int) + 1) then
          trellislaw32_ChooseMore_j1 r30 x1 true r
        else
          (0 ≤ (0 : Int) ∧ (0 : Int) < (r30.length : Int)) ∧
          if (ix r30 0).from_ = x6.from_ then
            if (ix r30 0).to < (ix r30 0).from_ then
              trellislaw32_ChooseMore_j1 r30 x1 true r
            else
              if x6.to ≥ x6.from_ then
                if (ix r30 0).to = x6.to then
                  if x6.to < x6.from_ then
                    trellislaw32_ChooseMore_j1 r30 x1 (((ix r30 0).to) != x6.from_) r
                  else
                    trellislaw32_ChooseMore_j1 r30 x1 false r
                else
                  trellislaw32_ChooseMore_j1 r30 x1 true r
              else
                if x6.to < x6.from_ then
                  trellislaw32_ChooseMore_j1 r30 x1 (((ix r30 0).to) != x6.from_) r
                else
                  trellislaw32_ChooseMore_j1 r30 x1 false r
          else
            trellislaw32_ChooseMore_j1 r30 x1 true r
  else
    r = false
def trellislaw32_ChooseInner_j4 (x1 : List api_Node) (x147 : Int) (r30 : Int) (x255 : Bool) (o1 : Sum Int Bool) : Prop :=
  ∃ r259 : Int, (tree_Parent x1 x147 r259) ∧
  if r259 = r30 then
    if x255 = true then
      o1 = .inr (false)
    else
      o1 = .inl (w64 (x147 + 1))
  else
    o1 = .inl (w64 (x147 + 1))
def trellislaw32_ChooseInner_b5 (x1 : List api_Node) (x6 : api_Range) (x37 : Int) (x297 : Int) (o2 : Sum Int (Sum Int Bool)) : Prop :=
  if x297 ≥ 0 then
    (0 ≤ x297 ∧ x297 < (x1.length : Int)) ∧
    if (ix x1 x297).from_ > x6.from_ then
      o2 = .inr (.inr (false))
    else
      if (ix x1 x297).to < x37 then
        o2 = .inr (.inr (false))
      else
        ∃ r333 : Int, (tree_Parent x1 x297 r333) ∧
        o2 = .inl r333
  else
    o2 = .inr (.inr (true))
def trellislaw32_ChooseInner_b3 (x1 : List api_Node) (x6 : api_Range) (r30 : Int) (x37 : Int) (x147 : Int) (o1 : Sum Int Bool) : Prop :=
  if x147 < (x1.length : Int) then
    (0 ≤ x147 ∧ x147 < (x1.length : Int)) ∧
    if (ix x1 x147).from_ ≤ x6.from_ then
      trellislaw32_ChooseInner_j4 x1 x147 r30 (decide ((ix x1 x147).to ≥ x37)) o1
    else
      trellislaw32_ChooseInner_j4 x1 x147 r30 false o1
  else
    Rounds (fun (s : Int) o => trellislaw32_ChooseInner_b5 x1 x6 x37 s o) r30 o1
def trellislaw32_ChooseInner_j2 (x1 : List api_Node) (x6 : api_Range) (r30 : Int) (x37 : Int) (x49 : Bool) (r : Bool) : Prop :=
  if x49 = true then
    r = false
  else
    Rounds (fun (s : Int) o => trellislaw32_ChooseInner_b3 x1 x6 r30 x37 s o) 0 r
def trellislaw32_ChooseInner_j1 (x1 : List api_Node) (r30 : Int) (x6 : api_Range) (x37 : Int) (r : Bool) : Prop :=
  ∃ r41 : Int, (tree_Roots x1 r41) ∧
  if r41 < 0 then
    r = (r30 == (-1))
  else
    if r30 < -1 then
      trellislaw32_ChooseInner_j2 x1 x6 r30 x37 true r
    else
      trellislaw32_ChooseInner_j2 x1 x6 r30 x37 (decide (r30 ≥ (x1.length : Int))) r
def trellislaw32_ChooseInner (x1 : List api_Node) (x6 : api_Range) (r : Bool) : Prop :=
  ∃ r12 : Bool, (trellislaw32_started  r12) ∧
  if r12 = true then
    ∃ r21 : Bool, (trellisref15_Beyond x1 r21) ∧
    if r21 = true then
      r = true
    else
      ∃ r30 : Int, (choose_Cover x1 x6 r30) ∧
      if x6.to < x6.from_ then
        trellislaw32_ChooseInner_j1 x1 r30 x6 x6.from_ r
      else
        trellislaw32_ChooseInner_j1 x1 r30 x6 x6.to r
  else
    r = false
def trellislaw32_kind (x1 : api_Node) (r : Int) : Prop :=
  if x1.named = true then
    r = 0
  else
    if x1.name = (⟨#[40]⟩ : ByteArray) then
      r = 1
    else
      if x1.name = (⟨#[91]⟩ : ByteArray) then
        r = 2
      else
        if x1.name = (⟨#[123]⟩ : ByteArray) then
          r = 3
        else
          if x1.name = (⟨#[41]⟩ : ByteArray) then
            r = -1
          else
            if x1.name = (⟨#[93]⟩ : ByteArray) then
              r = -2
            else
              if x1.name = (⟨#[125]⟩ : ByteArray) then
                r = -3
              else
                r = 0
def trellislaw32_ChoosePairs_j2 (x276 : Bool) (r : Bool) : Prop :=
  r = x276
def trellislaw32_ChoosePairs_b5 (x1172 : Int) (x1 : List api_Node) (x1171 : Int) (x1186 : Int) (o1 : Sum Int Bool) : Prop :=
  if x1186 < x1172 then
    ∃ r1203 : Int, (choose_Pair x1 x1186 r1203) ∧
    if r1203 ≥ 0 then
      if r1203 ≤ x1171 then
        o1 = .inr (false)
      else
        if r1203 ≥ x1172 then
          o1 = .inr (false)
        else
          o1 = .inl (w64 (x1186 + 1))
    else
      o1 = .inl (w64 (x1186 + 1))
  else
    o1 = .inr (true)
def trellislaw32_ChoosePairs_j4 (x1 : List api_Node) (x1171 : Int) (x1172 : Int) (r : Bool) : Prop :=
  Rounds (fun (s : Int) o => trellislaw32_ChoosePairs_b5 x1172 x1 x1171 s o) (w64 (x1171 + 1)) r
def trellislaw32_ChoosePairs_j3 (x6 : Int) (r28 : Int) (x1 : List api_Node) (x1167 : Bool) (r : Bool) : Prop :=
  if x1167 = true then
    r = false
  else
    if x6 > r28 then
      trellislaw32_ChoosePairs_j4 x1 r28 x6 r
    else
      trellislaw32_ChoosePairs_j4 x1 x6 r28 r
def trellislaw32_ChoosePairs_j1 (r28 : Int) (x1 : List api_Node) (x6 : Int) (x55 : Bool) (r : Bool) : Prop :=
  if x55 = true then
    r = (r28 == (-1))
  else
    if r28 = -1 then
      ∃ r61 : Int, (choose_Beside x1 x6 1 r61) ∧
      (0 ≤ x6 ∧ x6 < (x1.length : Int)) ∧
      ∃ r282 : Int, (trellislaw32_kind (ix x1 x6) r282) ∧
      if r282 < 0 then
        trellislaw32_ChoosePairs_j2 true r
      else
        if r61 < 0 then
          trellislaw32_ChoosePairs_j2 true r
        else
          (0 ≤ r61 ∧ r61 < (x1.length : Int)) ∧
          ∃ r346 : Int, (trellislaw32_kind (ix x1 r61) r346) ∧
          ∃ r355 : Int, (trellislaw32_kind (ix x1 x6) r355) ∧
          trellislaw32_ChoosePairs_j2 (r346 != (w64 (0 - r355))) r
    else
      if r28 < 0 then
        trellislaw32_ChoosePairs_j3 x6 r28 x1 true r
      else
        if r28 ≥ (x1.length : Int) then
          trellislaw32_ChoosePairs_j3 x6 r28 x1 true r
        else
          (0 ≤ r28 ∧ r28 < (x1.length : Int)) ∧
          ∃ r1218 : Int, (trellislaw32_kind (ix x1 r28) r1218) ∧
          (0 ≤ x6 ∧ x6 < (x1.length : Int)) ∧
          ∃ r1228 : Int, (trellislaw32_kind (ix x1 x6) r1228) ∧
          if r1218 = w64 (0 - r1228) then
            ∃ r1238 : Int, (trellislaw32_kind (ix x1 x6) r1238) ∧
            if ((decide (r28 > x6)) != (decide (r1238 > 0))) = true then
              trellislaw32_ChoosePairs_j3 x6 r28 x1 true r
            else
              ∃ r1373 : Int, (choose_Pair x1 r28 r1373) ∧
              if r1373 = x6 then
                ∃ r1382 : Int, (tree_Parent x1 r28 r1382) ∧
                ∃ r1390 : Int, (tree_Parent x1 x6 r1390) ∧
                trellislaw32_ChoosePairs_j3 x6 r28 x1 (r1382 != r1390) r
              else
                trellislaw32_ChoosePairs_j3 x6 r28 x1 true r
          else
            trellislaw32_ChoosePairs_j3 x6 r28 x1 true r
def trellislaw32_ChoosePairs (x1 : List api_Node) (x6 : Int) (r : Bool) : Prop :=
  ∃ r10 : Bool, (trellislaw32_started  r10) ∧
  if r10 = true then
    ∃ r19 : Bool, (trellisref15_Beyond x1 r19) ∧
    if r19 = true then
      r = true
    else
      ∃ r28 : Int, (choose_Pair x1 x6 r28) ∧
      ∃ r1894 : Int, (tree_Roots x1 r1894) ∧
      if r1894 < 0 then
        trellislaw32_ChoosePairs_j1 r28 x1 x6 true r
      else
        if x6 < 0 then
          trellislaw32_ChoosePairs_j1 r28 x1 x6 true r
        else
          if x6 ≥ (x1.length : Int) then
            trellislaw32_ChoosePairs_j1 r28 x1 x6 true r
          else
            (0 ≤ x6 ∧ x6 < (x1.length : Int)) ∧
            ∃ r1907 : Int, (trellislaw32_kind (ix x1 x6) r1907) ∧
            trellislaw32_ChoosePairs_j1 r28 x1 x6 (r1907 == 0) r
  else
    r = false
def tree_Size (x1 : List api_Node) (x6 : Int) (r : Int) : Prop :=
  ∃ r10 : tree_forest, (tree_plant x1 r10) ∧
  ∃ r36 : Bool, (tree_forest_has r10 x6 r36) ∧
  if r36 = true then
    (0 ≤ x6 ∧ x6 < (r10.end_.length : Int)) ∧
    r = w64 ((ix r10.end_ x6) - x6)
  else
    r = 0
def trellislaw32_ChooseSides_j5 (x128 : Bool) (r : Bool) : Prop :=
  if x128 = true then
    r = false
  else
    r = true
def trellislaw32_ChooseSides_j4 (x1 : List api_Node) (x6 : Int) (r29 : Int) (x7 : Int) (x89 : Int) (r : Bool) : Prop :=
  ∃ r93 : Int, (choose_Beside x1 x6 1 r93) ∧
  if r93 = x89 then
    if r29 = -1 then
      r = (x7 != 0)
    else
      ∃ r133 : Int, (tree_Parent x1 r29 r133) ∧
      ∃ r141 : Int, (tree_Parent x1 x6 r141) ∧
      if r133 = r141 then
        ∃ r150 : Int, (choose_Beside x1 r29 (w64 (0 - x7)) r150) ∧
        if r150 = x6 then
          if ((decide (r29 > x6)) != (decide (x7 > 0))) = true then
            trellislaw32_ChooseSides_j5 true r
          else
            trellislaw32_ChooseSides_j5 ((r29 == x6) != (x7 == 0)) r
        else
          trellislaw32_ChooseSides_j5 true r
      else
        trellislaw32_ChooseSides_j5 true r
  else
    r = false
def trellislaw32_ChooseSides_j3 (x1 : List api_Node) (x6 : Int) (r29 : Int) (x7 : Int) (r63 : Int) (x86 : Bool) (r : Bool) : Prop :=
  if x86 = true then
    trellislaw32_ChooseSides_j4 x1 x6 r29 x7 (w64 (x6 + r63)) r
  else
    trellislaw32_ChooseSides_j4 x1 x6 r29 x7 (-1) r
def trellislaw32_ChooseSides_j2 (x1 : List api_Node) (x6 : Int) (r29 : Int) (x7 : Int) (x58 : Bool) (r : Bool) : Prop :=
  if x58 = true then
    r = false
  else
    ∃ r63 : Int, (tree_Size x1 x6 r63) ∧
    if w64 (x6 + r63) < (x1.length : Int) then
      ∃ r161 : Int, (tree_Parent x1 (w64 (x6 + r63)) r161) ∧
      ∃ r169 : Int, (tree_Parent x1 x6 r169) ∧
      trellislaw32_ChooseSides_j3 x1 x6 r29 x7 r63 (r161 == r169) r
    else
      trellislaw32_ChooseSides_j3 x1 x6 r29 x7 r63 false r
def trellislaw32_ChooseSides_j1 (r29 : Int) (x1 : List api_Node) (x6 : Int) (x7 : Int) (x45 : Bool) (r : Bool) : Prop :=
  if x45 = true then
    r = (r29 == (-1))
  else
    ∃ r177 : Int, (choose_Beside x1 x6 0 r177) ∧
    if r177 = x6 then
      if r29 < -1 then
        trellislaw32_ChooseSides_j2 x1 x6 r29 x7 true r
      else
        trellislaw32_ChooseSides_j2 x1 x6 r29 x7 (decide (r29 ≥ (x1.length : Int))) r
    else
      trellislaw32_ChooseSides_j2 x1 x6 r29 x7 true r
def trellislaw32_ChooseSides (x1 : List api_Node) (x6 : Int) (x7 : Int) (r : Bool) : Prop :=
  ∃ r11 : Bool, (trellislaw32_started  r11) ∧
  if r11 = true then
    ∃ r20 : Bool, (trellisref15_Beyond x1 r20) ∧
    if r20 = true then
      r = true
    else
      ∃ r29 : Int, (choose_Beside x1 x6 x7 r29) ∧
      ∃ r187 : Int, (tree_Roots x1 r187) ∧
      if r187 < 0 then
        trellislaw32_ChooseSides_j1 r29 x1 x6 x7 true r
      else
        if x6 < 0 then
          trellislaw32_ChooseSides_j1 r29 x1 x6 x7 true r
        else
          trellislaw32_ChooseSides_j1 r29 x1 x6 x7 (decide (x6 ≥ (x1.length : Int))) r
  else
    r = false
end Go.Proofs.Ytoifgnogoddmlaa.R
