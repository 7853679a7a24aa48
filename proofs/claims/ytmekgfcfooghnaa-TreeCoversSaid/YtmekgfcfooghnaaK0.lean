/- The kinds of this seat's values and closed facts on its types, printed by my own tool. No condition. -/
import Derived.Test.YtmekgfcfooghnaaBE
import Derived.Test.YtmekgfcfooghnaaR
import Derived.Test.YtmekgfcfooghnaaProg
set_option linter.unusedVariables false
set_option maxRecDepth 100000
set_option maxHeartbeats 4000000
namespace Go.Proofs.Ytmekgfcfooghnaa.K
open Go.Proofs.Ytmekgfcfooghnaa.B Go.Proofs.Ytmekgfcfooghnaa.R Go.RowKit
def enc_api_Node (x : api_Node) : List Value := [.string x.name, .bool x.named, .string x.field, .int .i64 x.from_, .int .i64 x.to, .int .i64 x.kids, .int .i64 x.leaf]
theorem hl_api_Node : ∀ x, (enc_api_Node x).length = 7 := fun _ => rfl
theorem h1_api_Node : ∀ x, ∀ u ∈ enc_api_Node x, u.oneCell' = true := fun x u hu => List.all_eq_true.1 (show (enc_api_Node x).all Value.oneCell' = true from rfl) u hu
abbrev k_api_Node : Kd api_Node := Kd.flat 7 enc_api_Node hl_api_Node h1_api_Node
def k_tree_forest : Kd tree_forest := { sz := 4, K := (fun w F x cs => ∃ (A0 : Option Addr), ∃ (n0 : Nat), ∃ (c0 : Nat), ∃ (A1 : Option Addr), ∃ (n1 : Nat), ∃ (c1 : Nat), ∃ (A2 : Option Addr), ∃ (n2 : Nat), ∃ (c2 : Nat), cs = [.slice A0 n0 c0, .slice A1 n1 c1, .slice A2 n2 c2, .bool x.ok] ∧ Rw k_api_Node w F A0 n0 c0 x.nodes ∧ Rw (kInt .i64) w F A1 n1 c1 x.parent ∧ Rw (kInt .i64) w F A2 n2 c2 x.end_), len := (by rintro w F x cs ⟨_, _, _, _, _, _, _, _, _, rfl, _⟩; rfl), one := (by rintro w F x cs ⟨_, _, _, _, _, _, _, _, _, rfl, _⟩; exact fun u hu => List.all_eq_true.1 rfl u hu), mono := (by rintro w w' F F' x cs ⟨_, _, _, _, _, _, _, _, _, rfl, h0, h1, h2⟩ hF; exact ⟨_, _, _, _, _, _, _, _, _, rfl, h0.mono hF, h1.mono hF, h2.mono hF⟩) }
def k_tree_stand : Kd tree_stand := { sz := 5, K := (fun w F x cs => ∃ (A0 : Option Addr), ∃ (n0 : Nat), ∃ (c0 : Nat), ∃ (A1 : Option Addr), ∃ (n1 : Nat), ∃ (c1 : Nat), ∃ (A2 : Option Addr), ∃ (n2 : Nat), ∃ (c2 : Nat), cs = [.slice A0 n0 c0, .slice A1 n1 c1, .slice A2 n2 c2, .bool x.forest.ok, .int .i64 x.at_] ∧ Rw k_api_Node w F A0 n0 c0 x.forest.nodes ∧ Rw (kInt .i64) w F A1 n1 c1 x.forest.parent ∧ Rw (kInt .i64) w F A2 n2 c2 x.forest.end_), len := (by rintro w F x cs ⟨_, _, _, _, _, _, _, _, _, rfl, _⟩; rfl), one := (by rintro w F x cs ⟨_, _, _, _, _, _, _, _, _, rfl, _⟩; exact fun u hu => List.all_eq_true.1 rfl u hu), mono := (by rintro w w' F F' x cs ⟨_, _, _, _, _, _, _, _, _, rfl, h0, h1, h2⟩ hF; exact ⟨_, _, _, _, _, _, _, _, _, rfl, h0.mono hF, h1.mono hF, h2.mono hF⟩) }
def k_tree_Cursor : Kd tree_Cursor := { sz := 5, K := (fun w F x cs => ∃ (A0 : Option Addr), ∃ (n0 : Nat), ∃ (c0 : Nat), ∃ (A1 : Option Addr), ∃ (n1 : Nat), ∃ (c1 : Nat), ∃ (A2 : Option Addr), ∃ (n2 : Nat), ∃ (c2 : Nat), cs = [.slice A0 n0 c0, .slice A1 n1 c1, .slice A2 n2 c2, .bool x.stand.forest.ok, .int .i64 x.stand.at_] ∧ Rw k_api_Node w F A0 n0 c0 x.stand.forest.nodes ∧ Rw (kInt .i64) w F A1 n1 c1 x.stand.forest.parent ∧ Rw (kInt .i64) w F A2 n2 c2 x.stand.forest.end_), len := (by rintro w F x cs ⟨_, _, _, _, _, _, _, _, _, rfl, _⟩; rfl), one := (by rintro w F x cs ⟨_, _, _, _, _, _, _, _, _, rfl, _⟩; exact fun u hu => List.all_eq_true.1 rfl u hu), mono := (by rintro w w' F F' x cs ⟨_, _, _, _, _, _, _, _, _, rfl, h0, h1, h2⟩ hF; exact ⟨_, _, _, _, _, _, _, _, _, rfl, h0.mono hF, h1.mono hF, h2.mono hF⟩) }
def kn_trellisref15_Tree : Nat → Kd trellisref15_Tree
  | 0 => { sz := 9, K := fun _ _ _ _ => False, len := fun h => h.elim, one := fun h => h.elim, mono := fun h => h.elim }
  | m + 1 => { sz := 9, K := (fun w F x cs => ∃ (A0 : Option Addr), ∃ (n0 : Nat), ∃ (c0 : Nat), cs = [.string x.node.name, .bool x.node.named, .string x.node.field, .int .i64 x.node.from_, .int .i64 x.node.to, .int .i64 x.node.kids, .int .i64 x.node.leaf, .slice A0 n0 c0, .int .i64 x.at_] ∧ Rw (kn_trellisref15_Tree m) w F A0 n0 c0 x.kids), len := (by rintro w F x cs ⟨_, _, _, rfl, _⟩; rfl), one := (by rintro w F x cs ⟨_, _, _, rfl, _⟩; exact fun u hu => List.all_eq_true.1 rfl u hu), mono := (by rintro w w' F F' x cs ⟨_, _, _, rfl, h0⟩ hF; exact ⟨_, _, _, rfl, h0.mono hF⟩) }
theorem kn_trellisref15_Tree_up (m : Nat) : ∀ {w F x cs}, (kn_trellisref15_Tree m).K w F x cs → (kn_trellisref15_Tree (m + 1)).K w F x cs := by
  induction m with
  | zero => exact fun h => h.elim
  | succ m ih => rintro w F x cs ⟨_, _, _, rfl, h0⟩; exact ⟨_, _, _, rfl, Rw.up (by cases m <;> rfl) (fun h => ih h) h0⟩
theorem kn_trellisref15_Tree_sz (m : Nat) : (kn_trellisref15_Tree m).sz = 9 := by cases m <;> rfl
def k_trellisref15_Tree : Kd trellisref15_Tree := Kd.union 9 kn_trellisref15_Tree kn_trellisref15_Tree_sz
theorem k_trellisref15_Tree_out {w : World} {F : Nat → Prop} {x : trellisref15_Tree} {cs : List Value} (h : (k_trellisref15_Tree).K w F x cs) : ∃ (A0 : Option Addr), ∃ (n0 : Nat), ∃ (c0 : Nat), cs = [.string x.node.name, .bool x.node.named, .string x.node.field, .int .i64 x.node.from_, .int .i64 x.node.to, .int .i64 x.node.kids, .int .i64 x.node.leaf, .slice A0 n0 c0, .int .i64 x.at_] ∧ Rw k_trellisref15_Tree w F A0 n0 c0 x.kids := by
  obtain ⟨m, h⟩ := h
  cases m with
  | zero => exact h.elim
  | succ m =>
    obtain ⟨_, _, _, rfl, h0⟩ := h
    exact ⟨_, _, _, rfl, Rw.up (kn_trellisref15_Tree_sz m).symm (fun h => ⟨m, h⟩) h0⟩
theorem k_trellisref15_Tree_in {w : World} {F : Nat → Prop} {x : trellisref15_Tree} {cs : List Value} (h : ∃ (A0 : Option Addr), ∃ (n0 : Nat), ∃ (c0 : Nat), cs = [.string x.node.name, .bool x.node.named, .string x.node.field, .int .i64 x.node.from_, .int .i64 x.node.to, .int .i64 x.node.kids, .int .i64 x.node.leaf, .slice A0 n0 c0, .int .i64 x.at_] ∧ Rw k_trellisref15_Tree w F A0 n0 c0 x.kids) : (k_trellisref15_Tree).K w F x cs := by
  obtain ⟨_, _, _, rfl, h0⟩ := h
  obtain ⟨m, h'⟩ := Rw.level kn_trellisref15_Tree_sz kn_trellisref15_Tree_up h0
  exact ⟨m + 1, _, _, _, rfl, h'⟩
def k_trellisref15_Model : Kd trellisref15_Model := { sz := 2, K := (fun w F x cs => ∃ (A0 : Option Addr), ∃ (n0 : Nat), ∃ (c0 : Nat), cs = [.slice A0 n0 c0, .int .i64 x.at_] ∧ Rw k_trellisref15_Tree w F A0 n0 c0 x.f), len := (by rintro w F x cs ⟨_, _, _, rfl, _⟩; rfl), one := (by rintro w F x cs ⟨_, _, _, rfl, _⟩; exact fun u hu => List.all_eq_true.1 rfl u hu), mono := (by rintro w w' F F' x cs ⟨_, _, _, rfl, h0⟩ hF; exact ⟨_, _, _, rfl, h0.mono hF⟩) }
def enc_api_ModeDef (x : api_ModeDef) : List Value := [.string x.name, .bool x.open_]
theorem hl_api_ModeDef : ∀ x, (enc_api_ModeDef x).length = 2 := fun _ => rfl
theorem h1_api_ModeDef : ∀ x, ∀ u ∈ enc_api_ModeDef x, u.oneCell' = true := fun x u hu => List.all_eq_true.1 (show (enc_api_ModeDef x).all Value.oneCell' = true from rfl) u hu
abbrev k_api_ModeDef : Kd api_ModeDef := Kd.flat 2 enc_api_ModeDef hl_api_ModeDef h1_api_ModeDef
def enc_api_TermDef (x : api_TermDef) : List Value := [.string x.name, .bool x.lit]
theorem hl_api_TermDef : ∀ x, (enc_api_TermDef x).length = 2 := fun _ => rfl
theorem h1_api_TermDef : ∀ x, ∀ u ∈ enc_api_TermDef x, u.oneCell' = true := fun x u hu => List.all_eq_true.1 (show (enc_api_TermDef x).all Value.oneCell' = true from rfl) u hu
abbrev k_api_TermDef : Kd api_TermDef := Kd.flat 2 enc_api_TermDef hl_api_TermDef h1_api_TermDef
def enc_api_Sym (x : api_Sym) : List Value := [.string x.name, .int .i64 x.kind]
theorem hl_api_Sym : ∀ x, (enc_api_Sym x).length = 2 := fun _ => rfl
theorem h1_api_Sym : ∀ x, ∀ u ∈ enc_api_Sym x, u.oneCell' = true := fun x u hu => List.all_eq_true.1 (show (enc_api_Sym x).all Value.oneCell' = true from rfl) u hu
abbrev k_api_Sym : Kd api_Sym := Kd.flat 2 enc_api_Sym hl_api_Sym h1_api_Sym
def enc_api_Ref (x : api_Ref) : List Value := [.int .i64 x.sym, .string x.field, .string x.as]
theorem hl_api_Ref : ∀ x, (enc_api_Ref x).length = 3 := fun _ => rfl
theorem h1_api_Ref : ∀ x, ∀ u ∈ enc_api_Ref x, u.oneCell' = true := fun x u hu => List.all_eq_true.1 (show (enc_api_Ref x).all Value.oneCell' = true from rfl) u hu
abbrev k_api_Ref : Kd api_Ref := Kd.flat 3 enc_api_Ref hl_api_Ref h1_api_Ref
def k_api_Prod : Kd api_Prod := { sz := 2, K := (fun w F x cs => ∃ (A0 : Option Addr), ∃ (n0 : Nat), ∃ (c0 : Nat), cs = [.int .i64 x.lhs, .slice A0 n0 c0] ∧ Rw k_api_Ref w F A0 n0 c0 x.rhs), len := (by rintro w F x cs ⟨_, _, _, rfl, _⟩; rfl), one := (by rintro w F x cs ⟨_, _, _, rfl, _⟩; exact fun u hu => List.all_eq_true.1 rfl u hu), mono := (by rintro w w' F F' x cs ⟨_, _, _, rfl, h0⟩ hF; exact ⟨_, _, _, rfl, h0.mono hF⟩) }
def k_api_Gram : Kd api_Gram := { sz := 3, K := (fun w F x cs => ∃ (A0 : Option Addr), ∃ (n0 : Nat), ∃ (c0 : Nat), ∃ (A1 : Option Addr), ∃ (n1 : Nat), ∃ (c1 : Nat), ∃ (A2 : Option Addr), ∃ (n2 : Nat), ∃ (c2 : Nat), cs = [.slice A0 n0 c0, .slice A1 n1 c1, .slice A2 n2 c2] ∧ Rw k_api_TermDef w F A0 n0 c0 x.terms ∧ Rw k_api_Sym w F A1 n1 c1 x.syms ∧ Rw k_api_Prod w F A2 n2 c2 x.prods), len := (by rintro w F x cs ⟨_, _, _, _, _, _, _, _, _, rfl, _⟩; rfl), one := (by rintro w F x cs ⟨_, _, _, _, _, _, _, _, _, rfl, _⟩; exact fun u hu => List.all_eq_true.1 rfl u hu), mono := (by rintro w w' F F' x cs ⟨_, _, _, _, _, _, _, _, _, rfl, h0, h1, h2⟩ hF; exact ⟨_, _, _, _, _, _, _, _, _, rfl, h0.mono hF, h1.mono hF, h2.mono hF⟩) }
def enc_api_ReNode (x : api_ReNode) : List Value := [.int .i64 x.op] ++ ((encA 4 fun j => [.int .u64 (x.set_ j)]) ++ ([.int .i64 x.a] ++ ([.int .i64 x.b])))
theorem hl_api_ReNode (x : api_ReNode) : (enc_api_ReNode x).length = 7 := by
  unfold enc_api_ReNode
  have e0 : ([.int .i64 x.op] : List Value).length = 1 := rfl
  have e1 : ((encA 4 fun j => [.int .u64 (x.set_ j)]) : List Value).length = 4 := (encA_len (sz := 1) (f := fun j => [.int .u64 (x.set_ j)]) (fun j => rfl) 4)
  have e2 : ([.int .i64 x.a] : List Value).length = 1 := rfl
  have e3 : ([.int .i64 x.b] : List Value).length = 1 := rfl
  simp only [List.length_append, e0, e1, e2, e3]
theorem ho_api_ReNode (x : api_ReNode) : (enc_api_ReNode x).all Value.oneCell' = true := by
  unfold enc_api_ReNode
  simp only [List.all_append, Bool.and_eq_true]
  exact ⟨rfl, (encA_one (f := fun j => [.int .u64 (x.set_ j)]) (fun j => rfl) 4), rfl, rfl⟩
theorem h1_api_ReNode : ∀ x, ∀ u ∈ enc_api_ReNode x, u.oneCell' = true := fun x u hu => List.all_eq_true.1 (ho_api_ReNode x) u hu
abbrev k_api_ReNode : Kd api_ReNode := Kd.flat 7 enc_api_ReNode hl_api_ReNode h1_api_ReNode
theorem pt_api_ReNode_op (x : api_ReNode) (y : Int) : Pt (enc_api_ReNode x) 0 ([.int .i64 x.op]) ([.int .i64 y]) (enc_api_ReNode { x with op := y }) := ⟨[], (encA 4 fun j => [.int .u64 (x.set_ j)]) ++ ([.int .i64 x.a] ++ ([.int .i64 x.b])), by simp [enc_api_ReNode], by simp [enc_api_ReNode], by
  simp only [List.length_append, List.length_nil]⟩
theorem pt_api_ReNode_set_ (x : api_ReNode) (y : Int → Int) : Pt (enc_api_ReNode x) 1 ((encA 4 fun j => [.int .u64 (x.set_ j)])) ((encA 4 fun j => [.int .u64 (y j)])) (enc_api_ReNode { x with set_ := y }) := ⟨[.int .i64 x.op], [.int .i64 x.a] ++ ([.int .i64 x.b]), by simp [enc_api_ReNode], by simp [enc_api_ReNode], by
  have e0 : ([.int .i64 x.op] : List Value).length = 1 := rfl
  simp only [List.length_append, List.length_nil, e0]⟩
theorem pt_api_ReNode_a (x : api_ReNode) (y : Int) : Pt (enc_api_ReNode x) 5 ([.int .i64 x.a]) ([.int .i64 y]) (enc_api_ReNode { x with a := y }) := ⟨[.int .i64 x.op] ++ (encA 4 fun j => [.int .u64 (x.set_ j)]), [.int .i64 x.b], by simp [enc_api_ReNode], by simp [enc_api_ReNode], by
  have e0 : ([.int .i64 x.op] : List Value).length = 1 := rfl
  have e1 : ((encA 4 fun j => [.int .u64 (x.set_ j)]) : List Value).length = 4 := (encA_len (sz := 1) (f := fun j => [.int .u64 (x.set_ j)]) (fun j => rfl) 4)
  simp only [List.length_append, List.length_nil, e0, e1]⟩
theorem pt_api_ReNode_b (x : api_ReNode) (y : Int) : Pt (enc_api_ReNode x) 6 ([.int .i64 x.b]) ([.int .i64 y]) (enc_api_ReNode { x with b := y }) := ⟨[.int .i64 x.op] ++ (encA 4 fun j => [.int .u64 (x.set_ j)]) ++ [.int .i64 x.a], [], by simp [enc_api_ReNode], by simp [enc_api_ReNode], by
  have e0 : ([.int .i64 x.op] : List Value).length = 1 := rfl
  have e1 : ((encA 4 fun j => [.int .u64 (x.set_ j)]) : List Value).length = 4 := (encA_len (sz := 1) (f := fun j => [.int .u64 (x.set_ j)]) (fun j => rfl) 4)
  have e2 : ([.int .i64 x.a] : List Value).length = 1 := rfl
  simp only [List.length_append, List.length_nil, e0, e1, e2]⟩
def enc_api_Test (x : api_Test) : List Value := [.int .i64 x.kind, .int .i64 x.n]
theorem hl_api_Test : ∀ x, (enc_api_Test x).length = 2 := fun _ => rfl
theorem h1_api_Test : ∀ x, ∀ u ∈ enc_api_Test x, u.oneCell' = true := fun x u hu => List.all_eq_true.1 (show (enc_api_Test x).all Value.oneCell' = true from rfl) u hu
abbrev k_api_Test : Kd api_Test := Kd.flat 2 enc_api_Test hl_api_Test h1_api_Test
def enc_api_Act (x : api_Act) : List Value := [.int .i64 x.kind, .int .i64 x.n, .int .i64 x.m]
theorem hl_api_Act : ∀ x, (enc_api_Act x).length = 3 := fun _ => rfl
theorem h1_api_Act : ∀ x, ∀ u ∈ enc_api_Act x, u.oneCell' = true := fun x u hu => List.all_eq_true.1 (show (enc_api_Act x).all Value.oneCell' = true from rfl) u hu
abbrev k_api_Act : Kd api_Act := Kd.flat 3 enc_api_Act hl_api_Act h1_api_Act
def k_api_Rule : Kd api_Rule := { sz := 7, K := (fun w F x cs => ∃ (A0 : Option Addr), ∃ (n0 : Nat), ∃ (c0 : Nat), ∃ (A1 : Option Addr), ∃ (n1 : Nat), ∃ (c1 : Nat), ∃ (A2 : Option Addr), ∃ (n2 : Nat), ∃ (c2 : Nat), ∃ (A3 : Option Addr), ∃ (n3 : Nat), ∃ (c3 : Nat), cs = [.int .i64 x.term, .int .i64 x.pat, .slice A0 n0 c0, .string x.lit, .slice A1 n1 c1, .slice A2 n2 c2, .slice A3 n3 c3] ∧ Rw k_api_ReNode w F A0 n0 c0 x.re ∧ Rw (kInt .i64) w F A1 n1 c1 x.in_ ∧ Rw k_api_Test w F A2 n2 c2 x.tests ∧ Rw k_api_Act w F A3 n3 c3 x.acts), len := (by rintro w F x cs ⟨_, _, _, _, _, _, _, _, _, _, _, _, rfl, _⟩; rfl), one := (by rintro w F x cs ⟨_, _, _, _, _, _, _, _, _, _, _, _, rfl, _⟩; exact fun u hu => List.all_eq_true.1 rfl u hu), mono := (by rintro w w' F F' x cs ⟨_, _, _, _, _, _, _, _, _, _, _, _, rfl, h0, h1, h2, h3⟩ hF; exact ⟨_, _, _, _, _, _, _, _, _, _, _, _, rfl, h0.mono hF, h1.mono hF, h2.mono hF, h3.mono hF⟩) }
def enc_api_Action (x : api_Action) : List Value := [.int .i64 x.kind, .int .i64 x.n]
theorem hl_api_Action : ∀ x, (enc_api_Action x).length = 2 := fun _ => rfl
theorem h1_api_Action : ∀ x, ∀ u ∈ enc_api_Action x, u.oneCell' = true := fun x u hu => List.all_eq_true.1 (show (enc_api_Action x).all Value.oneCell' = true from rfl) u hu
abbrev k_api_Action : Kd api_Action := Kd.flat 2 enc_api_Action hl_api_Action h1_api_Action
def k_api_Table : Kd api_Table := { sz := 2, K := (fun w F x cs => ∃ (A0 : Option Addr), ∃ (n0 : Nat), ∃ (c0 : Nat), ∃ (A1 : Option Addr), ∃ (n1 : Nat), ∃ (c1 : Nat), cs = [.slice A0 n0 c0, .slice A1 n1 c1] ∧ Rw (Kd.slice k_api_Action) w F A0 n0 c0 x.actions ∧ Rw (Kd.slice (kInt .i64)) w F A1 n1 c1 x.gotos), len := (by rintro w F x cs ⟨_, _, _, _, _, _, rfl, _⟩; rfl), one := (by rintro w F x cs ⟨_, _, _, _, _, _, rfl, _⟩; exact fun u hu => List.all_eq_true.1 rfl u hu), mono := (by rintro w w' F F' x cs ⟨_, _, _, _, _, _, rfl, h0, h1⟩ hF; exact ⟨_, _, _, _, _, _, rfl, h0.mono hF, h1.mono hF⟩) }
def enc_api_PaintDef (x : api_PaintDef) : List Value := [.string x.name, .string x.class_]
theorem hl_api_PaintDef : ∀ x, (enc_api_PaintDef x).length = 2 := fun _ => rfl
theorem h1_api_PaintDef : ∀ x, ∀ u ∈ enc_api_PaintDef x, u.oneCell' = true := fun x u hu => List.all_eq_true.1 (show (enc_api_PaintDef x).all Value.oneCell' = true from rfl) u hu
abbrev k_api_PaintDef : Kd api_PaintDef := Kd.flat 2 enc_api_PaintDef hl_api_PaintDef h1_api_PaintDef
def enc_api_MarkDef (x : api_MarkDef) : List Value := [.string x.name, .string x.field]
theorem hl_api_MarkDef : ∀ x, (enc_api_MarkDef x).length = 2 := fun _ => rfl
theorem h1_api_MarkDef : ∀ x, ∀ u ∈ enc_api_MarkDef x, u.oneCell' = true := fun x u hu => List.all_eq_true.1 (show (enc_api_MarkDef x).all Value.oneCell' = true from rfl) u hu
abbrev k_api_MarkDef : Kd api_MarkDef := Kd.flat 2 enc_api_MarkDef hl_api_MarkDef h1_api_MarkDef
def enc_api_InjectDef (x : api_InjectDef) : List Value := [.string x.name, .string x.lang]
theorem hl_api_InjectDef : ∀ x, (enc_api_InjectDef x).length = 2 := fun _ => rfl
theorem h1_api_InjectDef : ∀ x, ∀ u ∈ enc_api_InjectDef x, u.oneCell' = true := fun x u hu => List.all_eq_true.1 (show (enc_api_InjectDef x).all Value.oneCell' = true from rfl) u hu
abbrev k_api_InjectDef : Kd api_InjectDef := Kd.flat 2 enc_api_InjectDef hl_api_InjectDef h1_api_InjectDef
def k_api_Lang : Kd api_Lang := { sz := 12, K := (fun w F x cs => ∃ (A0 : Option Addr), ∃ (n0 : Nat), ∃ (c0 : Nat), ∃ (A1 : Option Addr), ∃ (n1 : Nat), ∃ (c1 : Nat), ∃ (A2 : Option Addr), ∃ (n2 : Nat), ∃ (c2 : Nat), ∃ (A3 : Option Addr), ∃ (n3 : Nat), ∃ (c3 : Nat), ∃ (A4 : Option Addr), ∃ (n4 : Nat), ∃ (c4 : Nat), ∃ (A5 : Option Addr), ∃ (n5 : Nat), ∃ (c5 : Nat), ∃ (A6 : Option Addr), ∃ (n6 : Nat), ∃ (c6 : Nat), ∃ (A7 : Option Addr), ∃ (n7 : Nat), ∃ (c7 : Nat), ∃ (A8 : Option Addr), ∃ (n8 : Nat), ∃ (c8 : Nat), ∃ (A9 : Option Addr), ∃ (n9 : Nat), ∃ (c9 : Nat), ∃ (A10 : Option Addr), ∃ (n10 : Nat), ∃ (c10 : Nat), cs = [.string x.name, .slice A0 n0 c0, .slice A1 n1 c1, .slice A2 n2 c2, .slice A3 n3 c3, .slice A4 n4 c4, .slice A5 n5 c5, .slice A6 n6 c6, .slice A7 n7 c7, .slice A8 n8 c8, .slice A9 n9 c9, .slice A10 n10 c10] ∧ Rw k_api_ModeDef w F A0 n0 c0 x.modes ∧ Rw k_api_TermDef w F A1 n1 c1 x.gram.terms ∧ Rw k_api_Sym w F A2 n2 c2 x.gram.syms ∧ Rw k_api_Prod w F A3 n3 c3 x.gram.prods ∧ Rw k_api_Rule w F A4 n4 c4 x.rules ∧ Rw (Kd.slice k_api_Action) w F A5 n5 c5 x.table.actions ∧ Rw (Kd.slice (kInt .i64)) w F A6 n6 c6 x.table.gotos ∧ Rw k_api_PaintDef w F A7 n7 c7 x.paints ∧ Rw kStr w F A8 n8 c8 x.folds ∧ Rw k_api_MarkDef w F A9 n9 c9 x.marks ∧ Rw k_api_InjectDef w F A10 n10 c10 x.injects), len := (by rintro w F x cs ⟨_, _, _, _, _, _, _, _, _, _, _, _, _, _, _, _, _, _, _, _, _, _, _, _, _, _, _, _, _, _, _, _, _, rfl, _⟩; rfl), one := (by rintro w F x cs ⟨_, _, _, _, _, _, _, _, _, _, _, _, _, _, _, _, _, _, _, _, _, _, _, _, _, _, _, _, _, _, _, _, _, rfl, _⟩; exact fun u hu => List.all_eq_true.1 rfl u hu), mono := (by rintro w w' F F' x cs ⟨_, _, _, _, _, _, _, _, _, _, _, _, _, _, _, _, _, _, _, _, _, _, _, _, _, _, _, _, _, _, _, _, _, rfl, h0, h1, h2, h3, h4, h5, h6, h7, h8, h9, h10⟩ hF; exact ⟨_, _, _, _, _, _, _, _, _, _, _, _, _, _, _, _, _, _, _, _, _, _, _, _, _, _, _, _, _, _, _, _, _, rfl, h0.mono hF, h1.mono hF, h2.mono hF, h3.mono hF, h4.mono hF, h5.mono hF, h6.mono hF, h7.mono hF, h8.mono hF, h9.mono hF, h10.mono hF⟩) }
def enc_trellislaw15_Op (x : trellislaw15_Op) : List Value := [.int .i64 x.n, .int .i64 x.pad, .int .i64 x.len]
theorem hl_trellislaw15_Op : ∀ x, (enc_trellislaw15_Op x).length = 3 := fun _ => rfl
theorem h1_trellislaw15_Op : ∀ x, ∀ u ∈ enc_trellislaw15_Op x, u.oneCell' = true := fun x u hu => List.all_eq_true.1 (show (enc_trellislaw15_Op x).all Value.oneCell' = true from rfl) u hu
abbrev k_trellislaw15_Op : Kd trellislaw15_Op := Kd.flat 3 enc_trellislaw15_Op hl_trellislaw15_Op h1_trellislaw15_Op
def k_trellislaw15_Made : Kd trellislaw15_Made := { sz := 3, K := (fun w F x cs => ∃ (A0 : Option Addr), ∃ (n0 : Nat), ∃ (c0 : Nat), cs = [.int .i64 x.sym, .slice A0 n0 c0, .int .i64 x.ends] ∧ Rw k_api_Node w F A0 n0 c0 x.t), len := (by rintro w F x cs ⟨_, _, _, rfl, _⟩; rfl), one := (by rintro w F x cs ⟨_, _, _, rfl, _⟩; exact fun u hu => List.all_eq_true.1 rfl u hu), mono := (by rintro w w' F F' x cs ⟨_, _, _, rfl, h0⟩ hF; exact ⟨_, _, _, rfl, h0.mono hF⟩) }
theorem eqd_api_Node (x y : api_Node) : eqRun (enc_api_Node x).toArray (enc_api_Node y).toArray [(0, 2), (1, 0), (2, 2), (3, 1), (4, 1), (5, 1), (6, 1)] = some (decide (x = y)) := by
  cases x; cases y; refine congrArg some ?_; rw [Bool.eq_iff_iff]; simp [seq_dec]
theorem mix : Try.prog.follows .mixedOrders = true := by kernel_rfl
theorem un_22 : Try.prog.underlying 22 = some (.slice 39) := by kernel_rfl
theorem un_23 : Try.prog.underlying 23 = some (.slice 3) := by kernel_rfl
theorem slE_22 : slE Try.prog 22 = some (39, 7) := by kernel_rfl
theorem fo_39_5 : fOff Try.prog 39 5 = some 5 := by kernel_rfl
theorem ld_3 : ldK Try.prog 3 = some none := by kernel_rfl
theorem bs_23_1 : bldS Try.prog 23 1 = some (3, 1, #[.int .i64 0]) := by kernel_rfl
theorem ap_23 : apK Try.prog 23 = some (3, 1, 8) := by kernel_rfl
theorem slE_23 : slE Try.prog 23 = some (3, 1) := by kernel_rfl
theorem sz_3 : szK Try.prog 3 = some 1 := by kernel_rfl
theorem ap_22 : apK Try.prog 22 = some (39, 7, 72) := by kernel_rfl
theorem bd_39 : bld Try.prog 39 = some (#[.string (⟨#[]⟩ : ByteArray), .bool false, .string (⟨#[]⟩ : ByteArray), .int .i64 0, .int .i64 0, .int .i64 0, .int .i64 0], [(0, 1), (1, 1), (2, 1), (3, 1), (4, 1), (5, 1), (6, 1)]) := by kernel_rfl
theorem bs_22_2 : bldS Try.prog 22 2 = some (39, 7, #[.string (⟨#[]⟩ : ByteArray), .bool false, .string (⟨#[]⟩ : ByteArray), .int .i64 0, .int .i64 0, .int .i64 0, .int .i64 0, .string (⟨#[]⟩ : ByteArray), .bool false, .string (⟨#[]⟩ : ByteArray), .int .i64 0, .int .i64 0, .int .i64 0, .int .i64 0]) := by kernel_rfl
theorem zr_32 : zrK Try.prog 32 = some [.slice none 0 0, .slice none 0 0, .slice none 0 0, .bool false] := by kernel_rfl
theorem mk_23 : mkK Try.prog 23 = some (3, [.int .i64 0], 8) := by kernel_rfl
theorem bd_32 : bld Try.prog 32 = some (#[.slice none 0 0, .slice none 0 0, .slice none 0 0, .bool false], [(0, 1), (1, 1), (2, 1), (3, 1)]) := by kernel_rfl
theorem sz_32 : szK Try.prog 32 = some 4 := by kernel_rfl
theorem ld_39 : ldK Try.prog 39 = some (some 7) := by kernel_rfl
theorem zr_39 : zrK Try.prog 39 = some [.string (⟨#[]⟩ : ByteArray), .bool false, .string (⟨#[]⟩ : ByteArray), .int .i64 0, .int .i64 0, .int .i64 0, .int .i64 0] := by kernel_rfl
theorem sz_39 : szK Try.prog 39 = some 7 := by kernel_rfl
theorem fo_32_1 : fOff Try.prog 32 1 = some 1 := by kernel_rfl
theorem ld_23 : ldK Try.prog 23 = some none := by kernel_rfl
theorem ld_32 : ldK Try.prog 32 = some (some 4) := by kernel_rfl
theorem fo_32_2 : fOff Try.prog 32 2 = some 2 := by kernel_rfl
theorem fo_32_3 : fOff Try.prog 32 3 = some 3 := by kernel_rfl
theorem sz_4 : szK Try.prog 4 = some 1 := by kernel_rfl
theorem ld_4 : ldK Try.prog 4 = some none := by kernel_rfl
theorem fo_32_0 : fOff Try.prog 32 0 = some 0 := by kernel_rfl
theorem ld_22 : ldK Try.prog 22 = some none := by kernel_rfl
theorem fo_34_1 : fOff Try.prog 34 1 = some 4 := by kernel_rfl
theorem bd_34 : bld Try.prog 34 = some (#[.slice none 0 0, .slice none 0 0, .slice none 0 0, .bool false, .int .i64 0], [(0, 4), (4, 1)]) := by kernel_rfl
theorem bd_36 : bld Try.prog 36 = some (#[.slice none 0 0, .slice none 0 0, .slice none 0 0, .bool false, .int .i64 0], [(0, 5)]) := by kernel_rfl
theorem fo_36_0 : fOff Try.prog 36 0 = some 0 := by kernel_rfl
theorem fo_34_0 : fOff Try.prog 34 0 = some 0 := by kernel_rfl
theorem zr_96 : zrK Try.prog 96 = some [.string (⟨#[]⟩ : ByteArray), .bool false, .string (⟨#[]⟩ : ByteArray), .int .i64 0, .int .i64 0, .int .i64 0, .int .i64 0, .slice none 0 0, .int .i64 0] := by kernel_rfl
theorem bd_96 : bld Try.prog 96 = some (#[.string (⟨#[]⟩ : ByteArray), .bool false, .string (⟨#[]⟩ : ByteArray), .int .i64 0, .int .i64 0, .int .i64 0, .int .i64 0, .slice none 0 0, .int .i64 0], [(0, 7), (7, 1), (8, 1)]) := by kernel_rfl
theorem sz_96 : szK Try.prog 96 = some 9 := by kernel_rfl
theorem fo_96_1 : fOff Try.prog 96 1 = some 7 := by kernel_rfl
theorem ld_89 : ldK Try.prog 89 = some none := by kernel_rfl
theorem ld_96 : ldK Try.prog 96 = some (some 9) := by kernel_rfl
theorem bs_89_1 : bldS Try.prog 89 1 = some (96, 9, #[.string (⟨#[]⟩ : ByteArray), .bool false, .string (⟨#[]⟩ : ByteArray), .int .i64 0, .int .i64 0, .int .i64 0, .int .i64 0, .slice none 0 0, .int .i64 0]) := by kernel_rfl
theorem ap_89 : apK Try.prog 89 = some (96, 9, 104) := by kernel_rfl
theorem sz_89 : szK Try.prog 89 = some 1 := by kernel_rfl
theorem bd_93 : bld Try.prog 93 = some (#[.slice none 0 0, .int .i64 0], [(0, 1), (1, 1)]) := by kernel_rfl
theorem un_89 : Try.prog.underlying 89 = some (.slice 96) := by kernel_rfl
theorem fo_93_1 : fOff Try.prog 93 1 = some 1 := by kernel_rfl
theorem eq_39 : eqK Try.prog 39 = some [(0, 2), (1, 0), (2, 2), (3, 1), (4, 1), (5, 1), (6, 1)] := by kernel_rfl
theorem slE_89 : slE Try.prog 89 = some (96, 9) := by kernel_rfl
theorem fo_96_2 : fOff Try.prog 96 2 = some 8 := by kernel_rfl
theorem fo_93_0 : fOff Try.prog 93 0 = some 0 := by kernel_rfl
theorem un_26 : Try.prog.underlying 26 = some (.pointer 36) := by kernel_rfl
theorem un_4 : Try.prog.underlying 4 = some (.bool) := by kernel_rfl
theorem un_59 : Try.prog.underlying 59 = some (.slice 22) := by kernel_rfl
theorem slE_59 : slE Try.prog 59 = some (22, 1) := by kernel_rfl
theorem fo_58_2 : fOff Try.prog 58 2 = some 2 := by kernel_rfl
theorem fo_47_0 : fOff Try.prog 47 0 = some 0 := by kernel_rfl
theorem ld_43 : ldK Try.prog 43 = some none := by kernel_rfl
theorem un_43 : Try.prog.underlying 43 = some (.slice 100) := by kernel_rfl
theorem slE_43 : slE Try.prog 43 = some (100, 2) := by kernel_rfl
theorem ld_100 : ldK Try.prog 100 = some (some 2) := by kernel_rfl
theorem zr_100 : zrK Try.prog 100 = some [.string (⟨#[]⟩ : ByteArray), .bool false] := by kernel_rfl
theorem sz_100 : szK Try.prog 100 = some 2 := by kernel_rfl
theorem fo_100_0 : fOff Try.prog 100 0 = some 0 := by kernel_rfl
theorem ld_9 : ldK Try.prog 9 = some none := by kernel_rfl
theorem fo_100_1 : fOff Try.prog 100 1 = some 1 := by kernel_rfl
theorem bs_22_1 : bldS Try.prog 22 1 = some (39, 7, #[.string (⟨#[]⟩ : ByteArray), .bool false, .string (⟨#[]⟩ : ByteArray), .int .i64 0, .int .i64 0, .int .i64 0, .int .i64 0]) := by kernel_rfl
theorem fo_47_1 : fOff Try.prog 47 1 = some 1 := by kernel_rfl
theorem ld_44 : ldK Try.prog 44 = some none := by kernel_rfl
theorem un_44 : Try.prog.underlying 44 = some (.slice 74) := by kernel_rfl
theorem slE_44 : slE Try.prog 44 = some (74, 2) := by kernel_rfl
theorem fo_74_1 : fOff Try.prog 74 1 = some 1 := by kernel_rfl
theorem ld_72 : ldK Try.prog 72 = some none := by kernel_rfl
theorem un_9 : Try.prog.underlying 9 = some (.string) := by kernel_rfl
theorem fo_96_0 : fOff Try.prog 96 0 = some 0 := by kernel_rfl
theorem fo_39_3 : fOff Try.prog 39 3 = some 3 := by kernel_rfl
theorem fo_39_4 : fOff Try.prog 39 4 = some 4 := by kernel_rfl
theorem ld_47 : ldK Try.prog 47 = some (some 3) := by kernel_rfl
theorem fo_104_0 : fOff Try.prog 104 0 = some 0 := by kernel_rfl
theorem fo_104_2 : fOff Try.prog 104 2 = some 2 := by kernel_rfl
theorem fo_39_0 : fOff Try.prog 39 0 = some 0 := by kernel_rfl
theorem sz_9 : szK Try.prog 9 = some 1 := by kernel_rfl
theorem fo_39_1 : fOff Try.prog 39 1 = some 1 := by kernel_rfl
theorem fo_39_2 : fOff Try.prog 39 2 = some 2 := by kernel_rfl
theorem fo_104_1 : fOff Try.prog 104 1 = some 1 := by kernel_rfl
theorem fo_47_2 : fOff Try.prog 47 2 = some 2 := by kernel_rfl
theorem ld_45 : ldK Try.prog 45 = some none := by kernel_rfl
theorem un_45 : Try.prog.underlying 45 = some (.slice 107) := by kernel_rfl
theorem slE_45 : slE Try.prog 45 = some (107, 2) := by kernel_rfl
theorem ld_107 : ldK Try.prog 107 = some (some 2) := by kernel_rfl
theorem zr_107 : zrK Try.prog 107 = some [.int .i64 0, .slice none 0 0] := by kernel_rfl
theorem sz_107 : szK Try.prog 107 = some 2 := by kernel_rfl
theorem fo_107_1 : fOff Try.prog 107 1 = some 1 := by kernel_rfl
theorem ld_105 : ldK Try.prog 105 = some none := by kernel_rfl
theorem un_105 : Try.prog.underlying 105 = some (.slice 104) := by kernel_rfl
theorem slE_105 : slE Try.prog 105 = some (104, 3) := by kernel_rfl
theorem ld_104 : ldK Try.prog 104 = some (some 3) := by kernel_rfl
theorem fo_107_0 : fOff Try.prog 107 0 = some 0 := by kernel_rfl
theorem fo_74_0 : fOff Try.prog 74 0 = some 0 := by kernel_rfl
theorem fd_32_3 : fdK Try.prog 32 3 = some (3, none) := by kernel_rfl
theorem bs_22_0 : bldS Try.prog 22 0 = some (39, 7, #[]) := by kernel_rfl
theorem ld_58 : ldK Try.prog 58 = some (some 12) := by kernel_rfl
theorem zr_104 : zrK Try.prog 104 = some [.int .i64 0, .string (⟨#[]⟩ : ByteArray), .string (⟨#[]⟩ : ByteArray)] := by kernel_rfl
theorem sz_104 : szK Try.prog 104 = some 3 := by kernel_rfl
theorem bs_59_1 : bldS Try.prog 59 1 = some (22, 1, #[.slice none 0 0]) := by kernel_rfl
theorem ap_59 : apK Try.prog 59 = some (22, 1, 24) := by kernel_rfl
theorem bs_59_2 : bldS Try.prog 59 2 = some (22, 1, #[.slice none 0 0, .slice none 0 0]) := by kernel_rfl
theorem bs_23_2 : bldS Try.prog 23 2 = some (3, 1, #[.int .i64 0, .int .i64 0]) := by kernel_rfl
theorem fo_123_0 : fOff Try.prog 123 0 = some 0 := by kernel_rfl
theorem ld_120 : ldK Try.prog 120 = some none := by kernel_rfl
theorem un_120 : Try.prog.underlying 120 = some (.pointer 123) := by kernel_rfl
theorem pt_120 : ptK Try.prog 120 = true := by kernel_rfl
theorem un_136 : Try.prog.underlying 136 = some .unsafePointer := by kernel_rfl
theorem li_120_123_0 : lieK Try.prog 120 123 2 0 = true := by kernel_rfl
theorem sz_120 : szK Try.prog 120 = some 1 := by kernel_rfl
theorem fo_123_1 : fOff Try.prog 123 1 = some 1 := by kernel_rfl
theorem ld_121 : ldK Try.prog 121 = some none := by kernel_rfl
theorem bs_121_1 : bldS Try.prog 121 1 = some (5, 1, #[.int .u8 0]) := by kernel_rfl
theorem ap_121 : apK Try.prog 121 = some (5, 1, 1) := by kernel_rfl
theorem sz_121 : szK Try.prog 121 = some 1 := by kernel_rfl
theorem as_121_9 : asK Try.prog 121 9 5 = true := by kernel_rfl
theorem un_135 : Try.prog.underlying 135 = some (.pointer 5) := by kernel_rfl
theorem un_121 : Try.prog.underlying 121 = some (.slice 5) := by kernel_rfl
theorem by_135_5 : byK Try.prog 135 5 = true := by kernel_rfl
theorem zr_123 : zrK Try.prog 123 = some [.pointer none, .slice none 0 0] := by kernel_rfl
theorem slE_121 : slE Try.prog 121 = some (5, 1) := by kernel_rfl
theorem un_5 : Try.prog.underlying 5 = some (.int .u8) := by kernel_rfl
theorem ld_5 : ldK Try.prog 5 = some none := by kernel_rfl
theorem un_21 : Try.prog.underlying 21 = some (.int .i32) := by kernel_rfl
theorem un_3 : Try.prog.underlying 3 = some (.int .i64) := by kernel_rfl
theorem bs_121_2 : bldS Try.prog 121 2 = some (5, 1, #[.int .u8 0, .int .u8 0]) := by kernel_rfl
theorem bs_121_4 : bldS Try.prog 121 4 = some (5, 1, #[.int .u8 0, .int .u8 0, .int .u8 0, .int .u8 0]) := by kernel_rfl
theorem u8_121 : u8K Try.prog 121 = true := by kernel_rfl
theorem bd_100 : bld Try.prog 100 = some (#[.string (⟨#[]⟩ : ByteArray), .bool false], [(0, 1), (1, 1)]) := by kernel_rfl
theorem bs_43_2 : bldS Try.prog 43 2 = some (100, 2, #[.string (⟨#[]⟩ : ByteArray), .bool false, .string (⟨#[]⟩ : ByteArray), .bool false]) := by kernel_rfl
theorem bd_74 : bld Try.prog 74 = some (#[.string (⟨#[]⟩ : ByteArray), .int .i64 0], [(0, 1), (1, 1)]) := by kernel_rfl
theorem bs_44_1 : bldS Try.prog 44 1 = some (74, 2, #[.string (⟨#[]⟩ : ByteArray), .int .i64 0]) := by kernel_rfl
theorem bd_104 : bld Try.prog 104 = some (#[.int .i64 0, .string (⟨#[]⟩ : ByteArray), .string (⟨#[]⟩ : ByteArray)], [(0, 1), (1, 1), (2, 1)]) := by kernel_rfl
theorem bs_105_1 : bldS Try.prog 105 1 = some (104, 3, #[.int .i64 0, .string (⟨#[]⟩ : ByteArray), .string (⟨#[]⟩ : ByteArray)]) := by kernel_rfl
theorem bd_107 : bld Try.prog 107 = some (#[.int .i64 0, .slice none 0 0], [(0, 1), (1, 1)]) := by kernel_rfl
theorem bs_45_2 : bldS Try.prog 45 2 = some (107, 2, #[.int .i64 0, .slice none 0 0, .int .i64 0, .slice none 0 0]) := by kernel_rfl
theorem bd_47 : bld Try.prog 47 = some (#[.slice none 0 0, .slice none 0 0, .slice none 0 0], [(0, 1), (1, 1), (2, 1)]) := by kernel_rfl
theorem bd_58 : bld Try.prog 58 = some (#[.string (⟨#[]⟩ : ByteArray), .slice none 0 0, .slice none 0 0, .slice none 0 0, .slice none 0 0, .slice none 0 0, .slice none 0 0, .slice none 0 0, .slice none 0 0, .slice none 0 0, .slice none 0 0, .slice none 0 0], [(0, 1), (1, 1), (2, 3), (5, 1), (6, 2), (8, 1), (9, 1), (10, 1), (11, 1)]) := by kernel_rfl
theorem zr_58 : zrK Try.prog 58 = some [.string (⟨#[]⟩ : ByteArray), .slice none 0 0, .slice none 0 0, .slice none 0 0, .slice none 0 0, .slice none 0 0, .slice none 0 0, .slice none 0 0, .slice none 0 0, .slice none 0 0, .slice none 0 0, .slice none 0 0] := by kernel_rfl
theorem sz_58 : szK Try.prog 58 = some 12 := by kernel_rfl
theorem fo_39_6 : fOff Try.prog 39 6 = some 6 := by kernel_rfl
theorem un_71 : Try.prog.underlying 71 = some (.slice 115) := by kernel_rfl
theorem slE_71 : slE Try.prog 71 = some (115, 3) := by kernel_rfl
theorem ld_115 : ldK Try.prog 115 = some (some 3) := by kernel_rfl
theorem zr_115 : zrK Try.prog 115 = some [.int .i64 0, .int .i64 0, .int .i64 0] := by kernel_rfl
theorem sz_115 : szK Try.prog 115 = some 3 := by kernel_rfl
theorem fo_115_0 : fOff Try.prog 115 0 = some 0 := by kernel_rfl
theorem fo_115_1 : fOff Try.prog 115 1 = some 1 := by kernel_rfl
theorem fo_115_2 : fOff Try.prog 115 2 = some 2 := by kernel_rfl
theorem bd_79 : bld Try.prog 79 = some (#[.int .i64 0, .slice none 0 0, .int .i64 0], [(0, 1), (1, 1), (2, 1)]) := by kernel_rfl
theorem bs_75_1 : bldS Try.prog 75 1 = some (79, 3, #[.int .i64 0, .slice none 0 0, .int .i64 0]) := by kernel_rfl
theorem ap_75 : apK Try.prog 75 = some (79, 3, 40) := by kernel_rfl
theorem un_75 : Try.prog.underlying 75 = some (.slice 79) := by kernel_rfl
theorem slE_75 : slE Try.prog 75 = some (79, 3) := by kernel_rfl
theorem fo_79_0 : fOff Try.prog 79 0 = some 0 := by kernel_rfl
theorem fo_79_2 : fOff Try.prog 79 2 = some 2 := by kernel_rfl
theorem fo_79_1 : fOff Try.prog 79 1 = some 1 := by kernel_rfl
end Go.Proofs.Ytmekgfcfooghnaa.K
