/- What the functions answer, as plain relations, printed by my own tool off the program's translation. No condition. -/
import Derived.Test.YtelafghkjlpojaaP0
set_option linter.unusedVariables false
namespace Go.Proofs.Ytelafghkjlpojaa.R
open Go.Proofs.Ytelafghkjlpojaa.B
structure api_Ref where
  sym : Int
  field : ByteArray
  as : ByteArray
  deriving Inhabited, DecidableEq
structure api_TermDef where
  name : ByteArray
  lit : Bool
  deriving Inhabited, DecidableEq
structure api_Sym where
  name : ByteArray
  kind : Int
  deriving Inhabited, DecidableEq
structure api_Prod where
  lhs : Int
  rhs : List api_Ref
  deriving Inhabited, DecidableEq
structure api_Gram where
  terms : List api_TermDef
  syms : List api_Sym
  prods : List api_Prod
  deriving Inhabited, DecidableEq
structure first_sets where
  first : Int → Int
  vanishes : Int → Bool
  deriving Inhabited
structure trellislaw11_Replace where
  at_ : Int
  prod : Int
  deriving Inhabited, DecidableEq
def trellislaw11_twinRow_b1 (x1 : List api_Ref) (x20 : List api_Ref) (x25 : Int) (o1 : Sum ((List api_Ref) × Int) (List api_Ref)) : Prop :=
  if x25 < (x1.length : Int) then
    (0 ≤ x25 ∧ x25 < (x1.length : Int)) ∧
    ∃ x47 : List api_Ref, (x47 = x20 ++ ([ix x1 x25] : List api_Ref)) ∧
    (x47.length * 40 ≤ 140737488355328) ∧
    o1 = .inl (x47, w64 (x25 + 1))
  else
    o1 = .inr (x20)
def trellislaw11_twinRow (x1 : List api_Ref) (r : List api_Ref) : Prop :=
  Rounds (fun (s : (List api_Ref) × Int) o => trellislaw11_twinRow_b1 x1 s.1 s.2 o) (([] : List api_Ref), 0) r
def trellislaw11_twin_b3 (x1 : api_Gram) (x14010 : List api_TermDef) (x32680 : List api_Sym) (x38921 : Int) (x38922 : List api_Prod) (o3 : Sum (Int × (List api_Prod)) (Sum (Int × (List api_Sym)) (Sum (Int × (List api_TermDef)) api_Gram))) : Prop :=
  if x38921 < (x1.prods.length : Int) then
    (0 ≤ x38921 ∧ x38921 < (x1.prods.length : Int)) ∧
    ∃ r40474 : List api_Ref, (trellislaw11_twinRow ((ix x1.prods x38921).rhs) r40474) ∧
    ∃ x40500 : List api_Prod, (x40500 = x38922 ++ ([(⟨(ix x1.prods x38921).lhs, r40474⟩ : api_Prod)] : List api_Prod)) ∧
    (x40500.length * 32 ≤ 140737488355328) ∧
    o3 = .inl (w64 (x38921 + 1), x40500)
  else
    o3 = .inr (.inr (.inr ((⟨x14010, x32680, x38922⟩ : api_Gram))))
def trellislaw11_twin_b2 (x1 : api_Gram) (x14010 : List api_TermDef) (x32679 : Int) (x32680 : List api_Sym) (o2 : Sum (Int × (List api_Sym)) (Sum (Int × (List api_TermDef)) api_Gram)) : Prop :=
  if x32679 < (x1.syms.length : Int) then
    (0 ≤ x32679 ∧ x32679 < (x1.syms.length : Int)) ∧
    ∃ x37341 : List api_Sym, (x37341 = x32680 ++ ([ix x1.syms x32679] : List api_Sym)) ∧
    (x37341.length * 24 ≤ 140737488355328) ∧
    o2 = .inl (w64 (x32679 + 1), x37341)
  else
    Rounds (fun (s : Int × (List api_Prod)) o => trellislaw11_twin_b3 x1 x14010 x32680 s.1 s.2 o) (0, ([] : List api_Prod)) o2
def trellislaw11_twin_b1 (x1 : api_Gram) (x14009 : Int) (x14010 : List api_TermDef) (o1 : Sum (Int × (List api_TermDef)) api_Gram) : Prop :=
  if x14009 < (x1.terms.length : Int) then
    (0 ≤ x14009 ∧ x14009 < (x1.terms.length : Int)) ∧
    ∃ x28006 : List api_TermDef, (x28006 = x14010 ++ ([ix x1.terms x14009] : List api_TermDef)) ∧
    (x28006.length * 24 ≤ 140737488355328) ∧
    o1 = .inl (w64 (x14009 + 1), x28006)
  else
    Rounds (fun (s : Int × (List api_Sym)) o => trellislaw11_twin_b2 x1 x14010 s.1 s.2 o) (0, ([] : List api_Sym)) o1
def trellislaw11_twin (x1 : api_Gram) (r : api_Gram) : Prop :=
  Rounds (fun (s : Int × (List api_TermDef)) o => trellislaw11_twin_b1 x1 s.1 s.2 o) (0, ([] : List api_TermDef)) r
def trellisref11_Row_b1 (x14 : List api_Ref) (x1 : api_Gram) (x34 : Int) (o1 : Sum Int Bool) : Prop :=
  if x34 < (x14.length : Int) then
    (0 ≤ x34 ∧ x34 < (x14.length : Int)) ∧
    if (ix x14 x34).sym < 0 then
      o1 = .inr (false)
    else
      if (ix x14 x34).sym ≥ w64 ((x1.terms.length : Int) + (x1.syms.length : Int)) then
        o1 = .inr (false)
      else
        o1 = .inl (w64 (x34 + 1))
  else
    o1 = .inr (true)
def trellisref11_Row (x1 : api_Gram) (x14 : List api_Ref) (r : Bool) : Prop :=
  Rounds (fun (s : Int) o => trellisref11_Row_b1 x14 x1 s o) 0 r
def trellisref11_Sound_b2 (x1 : api_Gram) (x44 : Int) (o1 : Sum Int Bool) : Prop :=
  if x44 < (x1.prods.length : Int) then
    (0 ≤ x44 ∧ x44 < (x1.prods.length : Int)) ∧
    if (ix x1.prods x44).lhs < -1 then
      o1 = .inr (false)
    else
      if (ix x1.prods x44).lhs ≥ (x1.syms.length : Int) then
        o1 = .inr (false)
      else
        ∃ r83 : Bool, (trellisref11_Row x1 ((ix x1.prods x44).rhs) r83) ∧
        if r83 = true then
          o1 = .inl (w64 (x44 + 1))
        else
          o1 = .inr (false)
  else
    o1 = .inr (true)
def trellisref11_Sound_j1 (x1 : api_Gram) (x19 : Bool) (r : Bool) : Prop :=
  if x19 = true then
    r = false
  else
    Rounds (fun (s : Int) o => trellisref11_Sound_b2 x1 s o) 0 r
def trellisref11_Sound (x1 : api_Gram) (r : Bool) : Prop :=
  if (x1.terms.length : Int) < 1 then
    trellisref11_Sound_j1 x1 true r
  else
    if (x1.terms.length : Int) > 64 then
      trellisref11_Sound_j1 x1 true r
    else
      trellisref11_Sound_j1 x1 (decide ((x1.syms.length : Int) > 128)) r
def trellisref11_goes_b1 (x6 : List api_Ref) (x1 : List Bool) (x18 : Int) (o1 : Sum Int Bool) : Prop :=
  if x18 < (x6.length : Int) then
    (0 ≤ x18 ∧ x18 < (x6.length : Int)) ∧
    (0 ≤ (ix x6 x18).sym ∧ (ix x6 x18).sym < (x1.length : Int)) ∧
    if (ix x1 ((ix x6 x18).sym)) = true then
      o1 = .inl (w64 (x18 + 1))
    else
      o1 = .inr (false)
  else
    o1 = .inr (true)
def trellisref11_goes (x1 : List Bool) (x6 : List api_Ref) (r : Bool) : Prop :=
  Rounds (fun (s : Int) o => trellisref11_goes_b1 x6 x1 s o) 0 r
def trellisref11_Nullable_b2 (x1 : api_Gram) (x120 : Int) (x231 : List Bool) (x236 : Int) (o2 : Sum ((List Bool) × Int) (Sum ((List Bool) × Int) (List Bool))) : Prop :=
  if x236 < (x1.prods.length : Int) then
    (0 ≤ x236 ∧ x236 < (x1.prods.length : Int)) ∧
    if (ix x1.prods x236).lhs ≥ 0 then
      ∃ r277 : Bool, (trellisref11_goes x231 ((ix x1.prods x236).rhs) r277) ∧
      if r277 = true then
        (0 ≤ w64 ((x1.terms.length : Int) + ((ix x1.prods x236).lhs)) ∧ w64 ((x1.terms.length : Int) + ((ix x1.prods x236).lhs)) < (x231.length : Int)) ∧
        ∃ x284 : List Bool, (x284 = x231.set (w64 ((x1.terms.length : Int) + ((ix x1.prods x236).lhs)) : Int).toNat true) ∧
        o2 = .inl (x284, w64 (x236 + 1))
      else
        o2 = .inl (x231, w64 (x236 + 1))
    else
      o2 = .inl (x231, w64 (x236 + 1))
  else
    o2 = .inr (.inl (x231, w64 (x120 + 1)))
def trellisref11_Nullable_b1 (x1 : api_Gram) (x115 : List Bool) (x120 : Int) (o1 : Sum ((List Bool) × Int) (List Bool)) : Prop :=
  if x120 < (x1.syms.length : Int) then
    Rounds (fun (s : (List Bool) × Int) o => trellisref11_Nullable_b2 x1 x120 s.1 s.2 o) (x115, 0) o1
  else
    o1 = .inr (x115)
def trellisref11_Nullable (x1 : api_Gram) (r : List Bool) : Prop :=
  ∃ r19 : Bool, (trellisref11_Sound x1 r19) ∧
  if r19 = true then
    (0 ≤ w64 ((x1.terms.length : Int) + (x1.syms.length : Int)) ∧ w64 ((x1.terms.length : Int) + (x1.syms.length : Int)) * 1 ≤ 281474976710656) ∧
    ∃ x29 : List Bool, (x29 = List.replicate (w64 ((x1.terms.length : Int) + (x1.syms.length : Int)) : Int).toNat (false : Bool)) ∧
    Rounds (fun (s : (List Bool) × Int) o => trellisref11_Nullable_b1 x1 s.1 s.2 o) (x29, 0) r
  else
    r = ([] : List Bool)
def trellisref11_leads_j2 (x19 : List api_Ref) (x763 : Int) (x14 : List Bool) (x1846 : List Bool) (o1 : Sum ((List Bool) × Int) (List Bool)) : Prop :=
  (0 ≤ (ix x19 x763).sym ∧ (ix x19 x763).sym < (x14.length : Int)) ∧
  if (ix x14 ((ix x19 x763).sym)) = true then
    o1 = .inl (x1846, w64 (x763 + 1))
  else
    o1 = .inr (x1846)
def trellisref11_leads_b3 (x1 : api_Gram) (x19 : List api_Ref) (x763 : Int) (rc_trellisref11_leads : api_Gram → (List Bool) → (List api_Ref) → (List Bool) → (List Bool) → Prop) (x14 : List Bool) (x1974 : List Bool) (x1979 : Int) (o2 : Sum ((List Bool) × Int) (Sum ((List Bool) × Int) (List Bool))) : Prop :=
  if x1979 < (x1.prods.length : Int) then
    (0 ≤ x1979 ∧ x1979 < (x1.prods.length : Int)) ∧
    if (ix x1.prods x1979).lhs ≥ 0 then
      if (ix x1.prods x1979).lhs = w64 (((ix x19 x763).sym) - (x1.terms.length : Int)) then
        ∃ r2152 : List Bool, (rc_trellisref11_leads x1 x14 ((ix x1.prods x1979).rhs) x1974 r2152) ∧
        o2 = .inl (r2152, w64 (x1979 + 1))
      else
        o2 = .inl (x1974, w64 (x1979 + 1))
    else
      o2 = .inl (x1974, w64 (x1979 + 1))
  else
    ∃ q2210 : Sum ((List Bool) × Int) (List Bool), (o2 = .inr (q2210)) ∧
    trellisref11_leads_j2 x19 x763 x14 x1974 q2210
def trellisref11_leads_b1 (x19 : List api_Ref) (x14 : List Bool) (x1 : api_Gram) (rc_trellisref11_leads : api_Gram → (List Bool) → (List api_Ref) → (List Bool) → (List Bool) → Prop) (x758 : List Bool) (x763 : Int) (o1 : Sum ((List Bool) × Int) (List Bool)) : Prop :=
  if x763 < (x19.length : Int) then
    (0 ≤ x763 ∧ x763 < (x19.length : Int)) ∧
    (0 ≤ (ix x19 x763).sym ∧ (ix x19 x763).sym < (x758.length : Int)) ∧
    if (ix x758 ((ix x19 x763).sym)) = true then
      trellisref11_leads_j2 x19 x763 x14 x758 o1
    else
      ∃ x1854 : List Bool, (x1854 = x758.set ((ix x19 x763).sym : Int).toNat true) ∧
      Rounds (fun (s : (List Bool) × Int) o => trellisref11_leads_b3 x1 x19 x763 rc_trellisref11_leads x14 s.1 s.2 o) (x1854, 0) o1
  else
    o1 = .inr (x758)
def trellisref11_leads_body (rc_trellisref11_leads : api_Gram → (List Bool) → (List api_Ref) → (List Bool) → (List Bool) → Prop) (x1 : api_Gram) (x14 : List Bool) (x19 : List api_Ref) (x24 : List Bool) (r : List Bool) : Prop :=
  Rounds (fun (s : (List Bool) × Int) o => trellisref11_leads_b1 x19 x14 x1 rc_trellisref11_leads s.1 s.2 o) (x24, 0) r
def trellisref11_leads_n : Nat → api_Gram → (List Bool) → (List api_Ref) → (List Bool) → (List Bool) → Prop
  | 0 => fun _ _ _ _ _ => False
  | n + 1 => trellisref11_leads_body (trellisref11_leads_n n)
def trellisref11_leads (x1 : api_Gram) (x14 : List Bool) (x19 : List api_Ref) (x24 : List Bool) (r : List Bool) : Prop := ∃ n, trellisref11_leads_n n x1 x14 x19 x24 r
def trellisref11_begins_b1 (x1 : api_Gram) (r35 : List Bool) (x50 : Int) (x51 : Int) (o1 : Sum (Int × Int) Int) : Prop :=
  if x51 < (x1.terms.length : Int) then
    (0 ≤ x51 ∧ x51 < (r35.length : Int)) ∧
    if (ix r35 x51) = true then
      (0 ≤ IntKind.u64.wrap (x51)) ∧
      o1 = .inl (bits .or .u64 x50 (shlV .u64 1 (IntKind.u64.wrap (x51))), w64 (x51 + 1))
    else
      o1 = .inl (x50, w64 (x51 + 1))
  else
    o1 = .inr (x50)
def trellisref11_begins (x1 : api_Gram) (x14 : List Bool) (x19 : List api_Ref) (r : Int) : Prop :=
  (0 ≤ w64 ((x1.terms.length : Int) + (x1.syms.length : Int)) ∧ w64 ((x1.terms.length : Int) + (x1.syms.length : Int)) * 1 ≤ 281474976710656) ∧
  ∃ x30 : List Bool, (x30 = List.replicate (w64 ((x1.terms.length : Int) + (x1.syms.length : Int)) : Int).toNat (false : Bool)) ∧
  ∃ r35 : List Bool, (trellisref11_leads x1 x14 x19 x30 r35) ∧
  Rounds (fun (s : Int × Int) o => trellisref11_begins_b1 x1 r35 s.1 s.2 o) (0, 0) r
def trellisref11_Of_j1 (x1 : api_Gram) (x14 : List api_Ref) (x19 : Int) (x40 : Bool) (r : Int) : Prop :=
  if x40 = true then
    r = 0
  else
    ∃ r45 : List Bool, (trellisref11_Nullable x1 r45) ∧
    ∃ r58 : Int, (trellisref11_begins x1 r45 x14 r58) ∧
    ∃ r66 : Bool, (trellisref11_goes r45 x14 r66) ∧
    if r66 = true then
      r = bits .or .u64 r58 x19
    else
      r = r58
def trellisref11_Of (x1 : api_Gram) (x14 : List api_Ref) (x19 : Int) (r : Int) : Prop :=
  ∃ r75 : Bool, (trellisref11_Sound x1 r75) ∧
  if r75 = true then
    ∃ r84 : Bool, (trellisref11_Row x1 x14 r84) ∧
    trellisref11_Of_j1 x1 x14 x19 (!r84) r
  else
    trellisref11_Of_j1 x1 x14 x19 true r
def trellislaw11_lentRow_b1 (x1 : List api_Ref) (x29 : List api_Ref) (x34 : Int) (o1 : Sum ((List api_Ref) × Int) (List api_Ref)) : Prop :=
  if x34 < 20 then
    ∃ x58 : List api_Ref, (x58 = x29 ++ ([(⟨w64 (900 + x34), (⟨#[109, 97, 114, 107]⟩ : ByteArray), (⟨#[]⟩ : ByteArray)⟩ : api_Ref)] : List api_Ref)) ∧
    (x58.length * 40 ≤ 140737488355328) ∧
    o1 = .inl (x58, w64 (x34 + 1))
  else
    (0 ≤ (0 : Int) ∧ (0 : Int) ≤ (x1.length : Int) ∧ (x1.length : Int) ≤ (x29.length : Int)) ∧
    ∃ x63 : List api_Ref, (x63 = x29.take ((x1.length : Int) : Int).toNat) ∧
    o1 = .inr (x63)
def trellislaw11_lentRow (x1 : List api_Ref) (r : List api_Ref) : Prop :=
  ∃ r9 : List api_Ref, (trellislaw11_twinRow x1 r9) ∧
  Rounds (fun (s : (List api_Ref) × Int) o => trellislaw11_lentRow_b1 x1 s.1 s.2 o) (r9, 0) r
def trellislaw11_lent_b2 (x1 : api_Gram) (x611 : List api_TermDef) (x616 : List api_Sym) (x772 : Int) (x773 : List api_Prod) (o2 : Sum (Int × (List api_Prod)) (Sum (Int × (List api_TermDef) × (List api_Sym) × (List api_Prod)) api_Gram)) : Prop :=
  if x772 < (x773.length : Int) then
    (0 ≤ x772 ∧ x772 < (x1.prods.length : Int)) ∧
    ∃ r921 : List api_Ref, (trellislaw11_lentRow ((ix x1.prods x772).rhs) r921) ∧
    (0 ≤ x772 ∧ x772 < (x773.length : Int)) ∧
    ∃ x946 : List api_Prod, (x946 = x773.set (x772 : Int).toNat ({ (ix x773 x772) with rhs := r921 })) ∧
    o2 = .inl (w64 (x772 + 1), x946)
  else
    o2 = .inr (.inr ((⟨x611, x616, x773⟩ : api_Gram)))
def trellislaw11_lent_b1 (x1 : api_Gram) (x82 : Int) (x83 : List api_TermDef) (x88 : List api_Sym) (x93 : List api_Prod) (o1 : Sum (Int × (List api_TermDef) × (List api_Sym) × (List api_Prod)) api_Gram) : Prop :=
  if x82 < 20 then
    ∃ x581 : List api_TermDef, (x581 = x83 ++ ([(⟨(⟨#[109, 97, 114, 107]⟩ : ByteArray), false⟩ : api_TermDef)] : List api_TermDef)) ∧
    (x581.length * 24 ≤ 140737488355328) ∧
    ∃ x590 : List api_Sym, (x590 = x88 ++ ([(⟨(⟨#[109, 97, 114, 107]⟩ : ByteArray), 0⟩ : api_Sym)] : List api_Sym)) ∧
    (x590.length * 24 ≤ 140737488355328) ∧
    ∃ x603 : List api_Prod, (x603 = x93 ++ ([(⟨w64 (900 + x82), ([] : List api_Ref)⟩ : api_Prod)] : List api_Prod)) ∧
    (x603.length * 32 ≤ 140737488355328) ∧
    o1 = .inl (w64 (x82 + 1), x581, x590, x603)
  else
    (0 ≤ (0 : Int) ∧ (0 : Int) ≤ (x1.terms.length : Int) ∧ (x1.terms.length : Int) ≤ (x83.length : Int)) ∧
    ∃ x611 : List api_TermDef, (x611 = x83.take ((x1.terms.length : Int) : Int).toNat) ∧
    (0 ≤ (0 : Int) ∧ (0 : Int) ≤ (x1.syms.length : Int) ∧ (x1.syms.length : Int) ≤ (x88.length : Int)) ∧
    ∃ x616 : List api_Sym, (x616 = x88.take ((x1.syms.length : Int) : Int).toNat) ∧
    (0 ≤ (0 : Int) ∧ (0 : Int) ≤ (x1.prods.length : Int) ∧ (x1.prods.length : Int) ≤ (x93.length : Int)) ∧
    ∃ x621 : List api_Prod, (x621 = x93.take ((x1.prods.length : Int) : Int).toNat) ∧
    Rounds (fun (s : Int × (List api_Prod)) o => trellislaw11_lent_b2 x1 x611 x616 s.1 s.2 o) (0, x621) o1
def trellislaw11_lent (x1 : api_Gram) (r : api_Gram) : Prop :=
  ∃ r21 : api_Gram, (trellislaw11_twin x1 r21) ∧
  Rounds (fun (s : Int × (List api_TermDef) × (List api_Sym) × (List api_Prod)) o => trellislaw11_lent_b1 x1 s.1 s.2.1 s.2.2.1 s.2.2.2 o) (0, r21.terms, r21.syms, r21.prods) r
def first_symbols_b1 (x14 : List api_Ref) (x1 : api_Gram) (x29 : Int) (o1 : Sum Int Bool) : Prop :=
  if x29 < (x14.length : Int) then
    (0 ≤ x29 ∧ x29 < (x14.length : Int)) ∧
    if (ix x14 x29).sym < 0 then
      o1 = .inr (false)
    else
      if (ix x14 x29).sym ≥ w64 ((x1.terms.length : Int) + (x1.syms.length : Int)) then
        o1 = .inr (false)
      else
        o1 = .inl (w64 (x29 + 1))
  else
    o1 = .inr (true)
def first_symbols (x1 : api_Gram) (x14 : List api_Ref) (r : Bool) : Prop :=
  Rounds (fun (s : Int) o => first_symbols_b1 x14 x1 s o) 0 r
def first_sound_b2 (x1 : api_Gram) (x44 : Int) (o1 : Sum Int Bool) : Prop :=
  if x44 < (x1.prods.length : Int) then
    (0 ≤ x44 ∧ x44 < (x1.prods.length : Int)) ∧
    if (ix x1.prods x44).lhs < -1 then
      o1 = .inr (false)
    else
      if (ix x1.prods x44).lhs ≥ (x1.syms.length : Int) then
        o1 = .inr (false)
      else
        ∃ r83 : Bool, (first_symbols x1 ((ix x1.prods x44).rhs) r83) ∧
        if r83 = true then
          o1 = .inl (w64 (x44 + 1))
        else
          o1 = .inr (false)
  else
    o1 = .inr (true)
def first_sound_j1 (x1 : api_Gram) (x19 : Bool) (r : Bool) : Prop :=
  if x19 = true then
    r = false
  else
    Rounds (fun (s : Int) o => first_sound_b2 x1 s o) 0 r
def first_sound (x1 : api_Gram) (r : Bool) : Prop :=
  if (x1.terms.length : Int) < 1 then
    first_sound_j1 x1 true r
  else
    if (x1.terms.length : Int) > 64 then
      first_sound_j1 x1 true r
    else
      first_sound_j1 x1 (decide ((x1.syms.length : Int) > 128)) r
def first_sets_of_b1 (x4 : List api_Ref) (x1 : first_sets) (x17 : Int) (x18 : Int) (o1 : Sum (Int × Int) (Int × Bool × first_sets)) : Prop :=
  if x18 < (x4.length : Int) then
    (0 ≤ x18 ∧ x18 < (x4.length : Int)) ∧
    (0 ≤ (ix x4 x18).sym ∧ (ix x4 x18).sym < 192) ∧
    if (x1.vanishes ((ix x4 x18).sym)) = true then
      o1 = .inl (bits .or .u64 x17 (x1.first ((ix x4 x18).sym)), w64 (x18 + 1))
    else
      o1 = .inr ((bits .or .u64 x17 (x1.first ((ix x4 x18).sym)), false, x1))
  else
    o1 = .inr ((x17, true, x1))
def first_sets_of (x1 : first_sets) (x4 : List api_Ref) (r : Int × Bool × first_sets) : Prop :=
  Rounds (fun (s : Int × Int) o => first_sets_of_b1 x4 x1 s.1 s.2 o) (0, 0) r
def first_solve_b3 (x1 : api_Gram) (x847 : first_sets) (x1004 : Int) (x1005 : first_sets) (o3 : Sum (Int × first_sets) (Sum first_sets (Sum (Int × first_sets) first_sets))) : Prop :=
  if x1004 < (x1.prods.length : Int) then
    (0 ≤ x1004 ∧ x1004 < (x1.prods.length : Int)) ∧
    if (ix x1.prods x1004).lhs < 0 then
      o3 = .inl (w64 (x1004 + 1), x1005)
    else
      ∃ r1057 : Int × Bool × first_sets, (first_sets_of x1005 ((ix x1.prods x1004).rhs) r1057) ∧
      (0 ≤ w64 ((x1.terms.length : Int) + ((ix x1.prods x1004).lhs)) ∧ w64 ((x1.terms.length : Int) + ((ix x1.prods x1004).lhs)) < 192) ∧
      ∃ x1063 : first_sets, (x1063 = { r1057.2.2 with first := upd r1057.2.2.first (w64 ((x1.terms.length : Int) + ((ix x1.prods x1004).lhs))) (bits .or .u64 (r1057.2.2.first (w64 ((x1.terms.length : Int) + ((ix x1.prods x1004).lhs)))) r1057.1) }) ∧
      if (x1063.vanishes (w64 ((x1.terms.length : Int) + ((ix x1.prods x1004).lhs)))) = true then
        ∃ x1066 : first_sets, (x1066 = { x1063 with vanishes := upd x1063.vanishes (w64 ((x1.terms.length : Int) + ((ix x1.prods x1004).lhs))) true }) ∧
        o3 = .inl (w64 (x1004 + 1), x1066)
      else
        ∃ x1068 : first_sets, (x1068 = { x1063 with vanishes := upd x1063.vanishes (w64 ((x1.terms.length : Int) + ((ix x1.prods x1004).lhs))) r1057.2.1 }) ∧
        o3 = .inl (w64 (x1004 + 1), x1068)
  else
    if (aeq 192 x1005.first x847.first) = true then
      if (aeq 192 x1005.vanishes x847.vanishes) = true then
        ∃ x1072 : first_sets, (x1072 = x847) ∧
        o3 = .inr (.inr (.inr (x1072)))
      else
        ∃ x1074 : first_sets, (x1074 = x1005) ∧
        o3 = .inr (.inl x1074)
    else
      ∃ x1076 : first_sets, (x1076 = x1005) ∧
      o3 = .inr (.inl x1076)
def first_solve_b2 (x1 : api_Gram) (x847 : first_sets) (o2 : Sum first_sets (Sum (Int × first_sets) first_sets)) : Prop :=
  ∃ x965 : first_sets, (x965 = x847) ∧
  Rounds (fun (s : Int × first_sets) o => first_solve_b3 x1 x847 s.1 s.2 o) (0, x965) o2
def first_solve_b1 (x1 : api_Gram) (x372 : Int) (x373 : first_sets) (o1 : Sum (Int × first_sets) first_sets) : Prop :=
  if x372 < (x1.terms.length : Int) then
    (0 ≤ x372) ∧
    (0 ≤ x372 ∧ x372 < 192) ∧
    ∃ x729 : first_sets, (x729 = { x373 with first := upd x373.first x372 (shlV .u64 1 x372) }) ∧
    o1 = .inl (w64 (x372 + 1), x729)
  else
    Rounds (fun (s : first_sets) o => first_solve_b2 x1 s o) x373 o1
def first_solve (x1 : api_Gram) (r : first_sets) : Prop :=
  Rounds (fun (s : Int × first_sets) o => first_solve_b1 x1 s.1 s.2 o) (0, (⟨(fun _ => 0), (fun _ => false)⟩ : first_sets)) r
def first_Of_j1 (x1 : api_Gram) (x14 : List api_Ref) (x19 : Int) (x40 : Bool) (r : Int) : Prop :=
  if x40 = true then
    r = 0
  else
    ∃ r45 : first_sets, (first_solve x1 r45) ∧
    ∃ x52 : first_sets, (x52 = r45) ∧
    ∃ r57 : Int × Bool × first_sets, (first_sets_of x52 x14 r57) ∧
    if r57.2.1 = true then
      r = bits .or .u64 r57.1 x19
    else
      r = r57.1
def first_Of (x1 : api_Gram) (x14 : List api_Ref) (x19 : Int) (r : Int) : Prop :=
  ∃ r66 : Bool, (first_sound x1 r66) ∧
  if r66 = true then
    ∃ r75 : Bool, (first_symbols x1 x14 r75) ∧
    first_Of_j1 x1 x14 x19 (!r75) r
  else
    first_Of_j1 x1 x14 x19 true r
def trellislaw11_sameRow_b1 (x1 : List api_Ref) (x6 : List api_Ref) (x23 : Int) (o1 : Sum Int Bool) : Prop :=
  if x23 < (x1.length : Int) then
    (0 ≤ x23 ∧ x23 < (x1.length : Int)) ∧
    (0 ≤ x23 ∧ x23 < (x6.length : Int)) ∧
    if ix x1 x23 = ix x6 x23 then
      o1 = .inl (w64 (x23 + 1))
    else
      o1 = .inr (false)
  else
    o1 = .inr (true)
def trellislaw11_sameRow (x1 : List api_Ref) (x6 : List api_Ref) (r : Bool) : Prop :=
  if (x1.length : Int) = (x6.length : Int) then
    Rounds (fun (s : Int) o => trellislaw11_sameRow_b1 x1 x6 s o) 0 r
  else
    r = false
def trellislaw11_same_b4 (x1 : api_Gram) (x14 : api_Gram) (x3906 : Int) (o3 : Sum Int (Sum Int (Sum Int Bool))) : Prop :=
  if x3906 < (x1.prods.length : Int) then
    (0 ≤ x3906 ∧ x3906 < (x1.prods.length : Int)) ∧
    (0 ≤ x3906 ∧ x3906 < (x14.prods.length : Int)) ∧
    if (ix x1.prods x3906).lhs = (ix x14.prods x3906).lhs then
      ∃ r4091 : Bool, (trellislaw11_sameRow ((ix x1.prods x3906).rhs) ((ix x14.prods x3906).rhs) r4091) ∧
      if r4091 = true then
        o3 = .inl (w64 (x3906 + 1))
      else
        o3 = .inr (.inr (.inr (false)))
    else
      o3 = .inr (.inr (.inr (false)))
  else
    o3 = .inr (.inr (.inr (true)))
def trellislaw11_same_b3 (x1 : api_Gram) (x14 : api_Gram) (x3286 : Int) (o2 : Sum Int (Sum Int Bool)) : Prop :=
  if x3286 < (x1.syms.length : Int) then
    (0 ≤ x3286 ∧ x3286 < (x1.syms.length : Int)) ∧
    (0 ≤ x3286 ∧ x3286 < (x14.syms.length : Int)) ∧
    if ix x1.syms x3286 = ix x14.syms x3286 then
      o2 = .inl (w64 (x3286 + 1))
    else
      o2 = .inr (.inr (false))
  else
    Rounds (fun (s : Int) o => trellislaw11_same_b4 x1 x14 s o) 0 o2
def trellislaw11_same_b2 (x1 : api_Gram) (x14 : api_Gram) (x1426 : Int) (o1 : Sum Int Bool) : Prop :=
  if x1426 < (x1.terms.length : Int) then
    (0 ≤ x1426 ∧ x1426 < (x1.terms.length : Int)) ∧
    (0 ≤ x1426 ∧ x1426 < (x14.terms.length : Int)) ∧
    if ix x1.terms x1426 = ix x14.terms x1426 then
      o1 = .inl (w64 (x1426 + 1))
    else
      o1 = .inr (false)
  else
    Rounds (fun (s : Int) o => trellislaw11_same_b3 x1 x14 s o) 0 o1
def trellislaw11_same_j1 (x1 : api_Gram) (x14 : api_Gram) (x34 : Bool) (r : Bool) : Prop :=
  if x34 = true then
    r = false
  else
    Rounds (fun (s : Int) o => trellislaw11_same_b2 x1 x14 s o) 0 r
def trellislaw11_same (x1 : api_Gram) (x14 : api_Gram) (r : Bool) : Prop :=
  if (x1.terms.length : Int) = (x14.terms.length : Int) then
    if (x1.syms.length : Int) = (x14.syms.length : Int) then
      trellislaw11_same_j1 x1 x14 ((x1.prods.length : Int) != (x14.prods.length : Int)) r
    else
      trellislaw11_same_j1 x1 x14 true r
  else
    trellislaw11_same_j1 x1 x14 true r
def trellislaw11_stillRow_b1 (x6 : List api_Ref) (x1 : List api_Ref) (x17 : Int) (o1 : Sum Int Bool) : Prop :=
  if x17 < 20 then
    (0 ≤ w64 ((x6.length : Int) + x17) ∧ w64 ((x6.length : Int) + x17) < ((x1.take (w64 ((x6.length : Int) + 20) : Int).toNat).length : Int)) ∧
    if ix (x1.take (w64 ((x6.length : Int) + 20) : Int).toNat) (w64 ((x6.length : Int) + x17)) = (⟨w64 (900 + x17), (⟨#[109, 97, 114, 107]⟩ : ByteArray), (⟨#[]⟩ : ByteArray)⟩ : api_Ref) then
      o1 = .inl (w64 (x17 + 1))
    else
      o1 = .inr (false)
  else
    ∃ r37 : Bool, (trellislaw11_sameRow x1 x6 r37) ∧
    o1 = .inr (r37)
def trellislaw11_stillRow (x1 : List api_Ref) (x6 : List api_Ref) (r : Bool) : Prop :=
  (0 ≤ (0 : Int) ∧ (0 : Int) ≤ w64 ((x6.length : Int) + 20) ∧ w64 ((x6.length : Int) + 20) ≤ (x1.length : Int)) ∧
  Rounds (fun (s : Int) o => trellislaw11_stillRow_b1 x6 x1 s o) 0 r
def trellislaw11_still_b2 (x14 : api_Gram) (x1 : api_Gram) (x443 : Int) (o2 : Sum Int (Sum Int Bool)) : Prop :=
  if x443 < (x14.prods.length : Int) then
    (0 ≤ x443 ∧ x443 < (x1.prods.length : Int)) ∧
    (0 ≤ x443 ∧ x443 < (x14.prods.length : Int)) ∧
    ∃ r542 : Bool, (trellislaw11_stillRow ((ix x1.prods x443).rhs) ((ix x14.prods x443).rhs) r542) ∧
    if r542 = true then
      o2 = .inl (w64 (x443 + 1))
    else
      o2 = .inr (.inr (false))
  else
    o2 = .inr (.inr (true))
def trellislaw11_still_b1 (x14 : api_Gram) (x1 : api_Gram) (x61 : Int) (o1 : Sum Int Bool) : Prop :=
  if x61 < 20 then
    (0 ≤ w64 ((x14.terms.length : Int) + x61) ∧ w64 ((x14.terms.length : Int) + x61) < ((x1.terms.take (w64 ((x14.terms.length : Int) + 20) : Int).toNat).length : Int)) ∧
    if ix (x1.terms.take (w64 ((x14.terms.length : Int) + 20) : Int).toNat) (w64 ((x14.terms.length : Int) + x61)) = (⟨(⟨#[109, 97, 114, 107]⟩ : ByteArray), false⟩ : api_TermDef) then
      (0 ≤ w64 ((x14.syms.length : Int) + x61) ∧ w64 ((x14.syms.length : Int) + x61) < ((x1.syms.take (w64 ((x14.syms.length : Int) + 20) : Int).toNat).length : Int)) ∧
      if ix (x1.syms.take (w64 ((x14.syms.length : Int) + 20) : Int).toNat) (w64 ((x14.syms.length : Int) + x61)) = (⟨(⟨#[109, 97, 114, 107]⟩ : ByteArray), 0⟩ : api_Sym) then
        (0 ≤ w64 ((x14.prods.length : Int) + x61) ∧ w64 ((x14.prods.length : Int) + x61) < ((x1.prods.take (w64 ((x14.prods.length : Int) + 20) : Int).toNat).length : Int)) ∧
        if (ix (x1.prods.take (w64 ((x14.prods.length : Int) + 20) : Int).toNat) (w64 ((x14.prods.length : Int) + x61))).lhs = w64 (900 + x61) then
          if (((ix (x1.prods.take (w64 ((x14.prods.length : Int) + 20) : Int).toNat) (w64 ((x14.prods.length : Int) + x61))).rhs).length : Int) > 0 then
            o1 = .inr (false)
          else
            o1 = .inl (w64 (x61 + 1))
        else
          o1 = .inr (false)
      else
        o1 = .inr (false)
    else
      o1 = .inr (false)
  else
    ∃ r358 : Bool, (trellislaw11_same x1 x14 r358) ∧
    if r358 = true then
      Rounds (fun (s : Int) o => trellislaw11_still_b2 x14 x1 s o) 0 o1
    else
      o1 = .inr (false)
def trellislaw11_still (x1 : api_Gram) (x14 : api_Gram) (r : Bool) : Prop :=
  (0 ≤ (0 : Int) ∧ (0 : Int) ≤ w64 ((x14.terms.length : Int) + 20) ∧ w64 ((x14.terms.length : Int) + 20) ≤ (x1.terms.length : Int)) ∧
  (0 ≤ (0 : Int) ∧ (0 : Int) ≤ w64 ((x14.syms.length : Int) + 20) ∧ w64 ((x14.syms.length : Int) + 20) ≤ (x1.syms.length : Int)) ∧
  (0 ≤ (0 : Int) ∧ (0 : Int) ≤ w64 ((x14.prods.length : Int) + 20) ∧ w64 ((x14.prods.length : Int) + 20) ≤ (x1.prods.length : Int)) ∧
  Rounds (fun (s : Int) o => trellislaw11_still_b1 x14 x1 s o) 0 r
def trellislaw11_FirstOf_b3 (r76 : api_Gram) (x718 : List api_Ref) (x19 : Int) (x1566 : Int) (x1567 : List api_Prod) (o2 : Sum (Int × (List api_Prod)) (Sum ((List api_Ref) × Int) Bool)) : Prop :=
  if x1566 < (x1567.length : Int) then
    (0 ≤ x1566 ∧ x1566 < (x1567.length : Int)) ∧
    (0 ≤ (0 : Int) ∧ (0 : Int) ≤ w64 (Int.tdiv (((ix x1567 x1566).rhs).length : Int) 2) ∧ w64 (Int.tdiv (((ix x1567 x1566).rhs).length : Int) 2) ≤ (((ix x1567 x1566).rhs).length : Int)) ∧
    ∃ x1750 : List api_Prod, (x1750 = x1567.set (x1566 : Int).toNat ({ (ix x1567 x1566) with rhs := (((ix x1567 x1566).rhs).take (w64 (Int.tdiv (((ix x1567 x1566).rhs).length : Int) 2) : Int).toNat) })) ∧
    o2 = .inl (w64 (x1566 + 1), x1750)
  else
    ∃ r1817 : api_Gram, (trellislaw11_twin (⟨r76.terms, r76.syms, x1567⟩ : api_Gram) r1817) ∧
    ∃ r1844 : List api_Ref, (trellislaw11_twinRow x718 r1844) ∧
    ∃ r1857 : Int, (trellisref11_Of r1817 r1844 x19 r1857) ∧
    ∃ r1865 : Int, (first_Of (⟨r76.terms, r76.syms, x1567⟩ : api_Gram) x718 x19 r1865) ∧
    o2 = .inr (.inr ((r1865 == r1857)))
def trellislaw11_FirstOf_b2 (r25 : api_Gram) (x19 : Int) (r76 : api_Gram) (x718 : List api_Ref) (x723 : Int) (o1 : Sum ((List api_Ref) × Int) Bool) : Prop :=
  if x723 < (x718.length : Int) then
    (0 ≤ w64 ((w64 ((x718.length : Int) - 1)) - x723) ∧ w64 ((w64 ((x718.length : Int) - 1)) - x723) < (x718.length : Int)) ∧
    (0 ≤ x723 ∧ x723 < (x718.length : Int)) ∧
    ∃ x1300 : List api_Ref, (x1300 = x718.set (x723 : Int).toNat (ix x718 (w64 ((w64 ((x718.length : Int) - 1)) - x723)))) ∧
    o1 = .inl (x1300, w64 (x723 + 1))
  else
    ∃ r1306 : List api_Ref, (trellislaw11_twinRow x718 r1306) ∧
    ∃ r1319 : Int, (trellisref11_Of r25 r1306 x19 r1319) ∧
    ∃ r1411 : Int, (first_Of r76 x718 x19 r1411) ∧
    if r1411 = r1319 then
      Rounds (fun (s : Int × (List api_Prod)) o => trellislaw11_FirstOf_b3 r76 x718 x19 s.1 s.2 o) (0, r76.prods) o1
    else
      o1 = .inr (false)
def trellislaw11_FirstOf_j1 (r25 : api_Gram) (x19 : Int) (r76 : api_Gram) (r105 : List api_Ref) (x142 : Bool) (r : Bool) : Prop :=
  if x142 = true then
    r = false
  else
    Rounds (fun (s : (List api_Ref) × Int) o => trellislaw11_FirstOf_b2 r25 x19 r76 s.1 s.2 o) (r105, 0) r
def trellislaw11_FirstOf (x1 : api_Gram) (x14 : List api_Ref) (x19 : Int) (r : Bool) : Prop :=
  ∃ r25 : api_Gram, (trellislaw11_twin x1 r25) ∧
  ∃ r54 : List api_Ref, (trellislaw11_twinRow x14 r54) ∧
  ∃ r68 : Int, (trellisref11_Of r25 r54 x19 r68) ∧
  ∃ r76 : api_Gram, (trellislaw11_lent x1 r76) ∧
  ∃ r105 : List api_Ref, (trellislaw11_lentRow x14 r105) ∧
  ∃ r1873 : Int, (first_Of r76 r105 x19 r1873) ∧
  if r1873 = r68 then
    ∃ r1882 : Bool, (trellislaw11_still r76 r25 r1882) ∧
    if r1882 = true then
      ∃ r1891 : Bool, (trellislaw11_stillRow r105 r54 r1891) ∧
      trellislaw11_FirstOf_j1 r25 x19 r76 r105 (!r1891) r
    else
      trellislaw11_FirstOf_j1 r25 x19 r76 r105 true r
  else
    trellislaw11_FirstOf_j1 r25 x19 r76 r105 true r
def trellisref11_First_b1 (x1 : api_Gram) (r28 : List Bool) (x61 : List Int) (x66 : Int) (o1 : Sum ((List Int) × Int) (List Int)) : Prop :=
  if x66 < w64 ((x1.terms.length : Int) + (x1.syms.length : Int)) then
    ∃ r95 : Int, (trellisref11_begins x1 r28 ([(⟨x66, (⟨#[]⟩ : ByteArray), (⟨#[]⟩ : ByteArray)⟩ : api_Ref)] : List api_Ref) r95) ∧
    ∃ x106 : List Int, (x106 = x61 ++ ([r95] : List Int)) ∧
    (x106.length * 8 ≤ 140737488355328) ∧
    o1 = .inl (x106, w64 (x66 + 1))
  else
    o1 = .inr (x61)
def trellisref11_First (x1 : api_Gram) (r : List Int) : Prop :=
  ∃ r19 : Bool, (trellisref11_Sound x1 r19) ∧
  if r19 = true then
    ∃ r28 : List Bool, (trellisref11_Nullable x1 r28) ∧
    Rounds (fun (s : (List Int) × Int) o => trellisref11_First_b1 x1 r28 s.1 s.2 o) (([] : List Int), 0) r
  else
    r = ([] : List Int)
def first_Nullable (x1 : api_Gram) (r : List Bool) : Prop :=
  ∃ r19 : Bool, (first_sound x1 r19) ∧
  if r19 = true then
    ∃ r28 : first_sets, (first_solve x1 r28) ∧
    ∃ x35 : first_sets, (x35 = r28) ∧
    (0 ≤ w64 ((x1.terms.length : Int) + (x1.syms.length : Int)) ∧ w64 ((x1.terms.length : Int) + (x1.syms.length : Int)) ≤ 192) ∧
    ∃ x42 : List Bool, (x42 = ([] : List Bool) ++ ((List.range (w64 ((x1.terms.length : Int) + (x1.syms.length : Int)) : Int).toNat).map fun j : Nat => x35.vanishes (j : Int))) ∧
    (x42.length * 1 ≤ 140737488355328) ∧
    r = x42
  else
    r = ([] : List Bool)
def first_First (x1 : api_Gram) (r : List Int) : Prop :=
  ∃ r19 : Bool, (first_sound x1 r19) ∧
  if r19 = true then
    ∃ r28 : first_sets, (first_solve x1 r28) ∧
    ∃ x35 : first_sets, (x35 = r28) ∧
    (0 ≤ w64 ((x1.terms.length : Int) + (x1.syms.length : Int)) ∧ w64 ((x1.terms.length : Int) + (x1.syms.length : Int)) ≤ 192) ∧
    ∃ x42 : List Int, (x42 = ([] : List Int) ++ ((List.range (w64 ((x1.terms.length : Int) + (x1.syms.length : Int)) : Int).toNat).map fun j : Nat => x35.first (j : Int))) ∧
    (x42.length * 8 ≤ 140737488355328) ∧
    r = x42
  else
    r = ([] : List Int)
def trellislaw11_sameBools_b1 (x1 : List Bool) (x6 : List Bool) (x23 : Int) (o1 : Sum Int Bool) : Prop :=
  if x23 < (x1.length : Int) then
    (0 ≤ x23 ∧ x23 < (x1.length : Int)) ∧
    (0 ≤ x23 ∧ x23 < (x6.length : Int)) ∧
    if ((ix x1 x23) != (ix x6 x23)) = true then
      o1 = .inr (false)
    else
      o1 = .inl (w64 (x23 + 1))
  else
    o1 = .inr (true)
def trellislaw11_sameBools (x1 : List Bool) (x6 : List Bool) (r : Bool) : Prop :=
  if (x1.length : Int) = (x6.length : Int) then
    Rounds (fun (s : Int) o => trellislaw11_sameBools_b1 x1 x6 s o) 0 r
  else
    r = false
def trellislaw11_sameTerms_b1 (x1 : List Int) (x6 : List Int) (x23 : Int) (o1 : Sum Int Bool) : Prop :=
  if x23 < (x1.length : Int) then
    (0 ≤ x23 ∧ x23 < (x1.length : Int)) ∧
    (0 ≤ x23 ∧ x23 < (x6.length : Int)) ∧
    if ix x1 x23 = ix x6 x23 then
      o1 = .inl (w64 (x23 + 1))
    else
      o1 = .inr (false)
  else
    o1 = .inr (true)
def trellislaw11_sameTerms (x1 : List Int) (x6 : List Int) (r : Bool) : Prop :=
  if (x1.length : Int) = (x6.length : Int) then
    Rounds (fun (s : Int) o => trellislaw11_sameTerms_b1 x1 x6 s o) 0 r
  else
    r = false
def trellislaw11_started  (r : Bool) : Prop :=
  ∃ r31 : List Bool, (first_Nullable (⟨([(⟨(⟨#[]⟩ : ByteArray), false⟩ : api_TermDef), (⟨(⟨#[97]⟩ : ByteArray), false⟩ : api_TermDef)] : List api_TermDef), ([(⟨(⟨#[115]⟩ : ByteArray), 1⟩ : api_Sym)] : List api_Sym), ([(⟨-1, ([(⟨2, (⟨#[]⟩ : ByteArray), (⟨#[]⟩ : ByteArray)⟩ : api_Ref)] : List api_Ref)⟩ : api_Prod), (⟨0, ([] : List api_Ref)⟩ : api_Prod), (⟨0, ([(⟨1, (⟨#[]⟩ : ByteArray), (⟨#[]⟩ : ByteArray)⟩ : api_Ref), (⟨2, (⟨#[]⟩ : ByteArray), (⟨#[]⟩ : ByteArray)⟩ : api_Ref)] : List api_Ref)⟩ : api_Prod)] : List api_Prod)⟩ : api_Gram) r31) ∧
  ∃ r44 : List Int, (first_First (⟨([(⟨(⟨#[]⟩ : ByteArray), false⟩ : api_TermDef), (⟨(⟨#[97]⟩ : ByteArray), false⟩ : api_TermDef)] : List api_TermDef), ([(⟨(⟨#[115]⟩ : ByteArray), 1⟩ : api_Sym)] : List api_Sym), ([(⟨-1, ([(⟨2, (⟨#[]⟩ : ByteArray), (⟨#[]⟩ : ByteArray)⟩ : api_Ref)] : List api_Ref)⟩ : api_Prod), (⟨0, ([] : List api_Ref)⟩ : api_Prod), (⟨0, ([(⟨1, (⟨#[]⟩ : ByteArray), (⟨#[]⟩ : ByteArray)⟩ : api_Ref), (⟨2, (⟨#[]⟩ : ByteArray), (⟨#[]⟩ : ByteArray)⟩ : api_Ref)] : List api_Ref)⟩ : api_Prod)] : List api_Prod)⟩ : api_Gram) r44) ∧
  if (r31.length : Int) = 3 then
    (0 ≤ (2 : Int) ∧ (2 : Int) < (r31.length : Int)) ∧
    if (ix r31 2) = true then
      (0 ≤ (1 : Int) ∧ (1 : Int) < (r31.length : Int)) ∧
      if (ix r31 1) = true then
        r = false
      else
        if (r44.length : Int) = 3 then
          (0 ≤ (2 : Int) ∧ (2 : Int) < (r44.length : Int)) ∧
          if ix r44 2 = 2 then
            (0 ≤ (0 : Int) ∧ (0 : Int) < (r44.length : Int)) ∧
            if ix r44 0 = 1 then
              ∃ r70 : Int, (first_Of (⟨([(⟨(⟨#[]⟩ : ByteArray), false⟩ : api_TermDef), (⟨(⟨#[97]⟩ : ByteArray), false⟩ : api_TermDef)] : List api_TermDef), ([(⟨(⟨#[115]⟩ : ByteArray), 1⟩ : api_Sym)] : List api_Sym), ([(⟨-1, ([(⟨2, (⟨#[]⟩ : ByteArray), (⟨#[]⟩ : ByteArray)⟩ : api_Ref)] : List api_Ref)⟩ : api_Prod), (⟨0, ([] : List api_Ref)⟩ : api_Prod), (⟨0, ([(⟨1, (⟨#[]⟩ : ByteArray), (⟨#[]⟩ : ByteArray)⟩ : api_Ref), (⟨2, (⟨#[]⟩ : ByteArray), (⟨#[]⟩ : ByteArray)⟩ : api_Ref)] : List api_Ref)⟩ : api_Prod)] : List api_Prod)⟩ : api_Gram) ([(⟨2, (⟨#[]⟩ : ByteArray), (⟨#[]⟩ : ByteArray)⟩ : api_Ref)] : List api_Ref) 1 r70) ∧
              r = (r70 == 3)
            else
              r = false
          else
            r = false
        else
          r = false
    else
      r = false
  else
    r = false
def trellislaw11_symbols_b1 (x14 : List api_Ref) (x1 : api_Gram) (x34 : Int) (o1 : Sum Int Bool) : Prop :=
  if x34 < (x14.length : Int) then
    (0 ≤ x34 ∧ x34 < (x14.length : Int)) ∧
    if (ix x14 x34).sym < 0 then
      o1 = .inr (false)
    else
      if (ix x14 x34).sym ≥ w64 ((x1.terms.length : Int) + (x1.syms.length : Int)) then
        o1 = .inr (false)
      else
        o1 = .inl (w64 (x34 + 1))
  else
    o1 = .inr (true)
def trellislaw11_symbols (x1 : api_Gram) (x14 : List api_Ref) (r : Bool) : Prop :=
  Rounds (fun (s : Int) o => trellislaw11_symbols_b1 x14 x1 s o) 0 r
def trellislaw11_sound_b2 (x1 : api_Gram) (x164 : Int) (o1 : Sum Int Bool) : Prop :=
  if x164 < (x1.prods.length : Int) then
    (0 ≤ x164 ∧ x164 < (x1.prods.length : Int)) ∧
    if (ix x1.prods x164).lhs < -1 then
      o1 = .inr (false)
    else
      if (ix x1.prods x164).lhs ≥ (x1.syms.length : Int) then
        o1 = .inr (false)
      else
        ∃ r377 : Bool, (trellislaw11_symbols x1 ((ix x1.prods x164).rhs) r377) ∧
        if r377 = true then
          o1 = .inl (w64 (x164 + 1))
        else
          o1 = .inr (false)
  else
    o1 = .inr (true)
def trellislaw11_sound_j1 (x1 : api_Gram) (x19 : Bool) (r : Bool) : Prop :=
  if x19 = true then
    r = false
  else
    Rounds (fun (s : Int) o => trellislaw11_sound_b2 x1 s o) 0 r
def trellislaw11_sound (x1 : api_Gram) (r : Bool) : Prop :=
  if (x1.terms.length : Int) < 1 then
    trellislaw11_sound_j1 x1 true r
  else
    if (x1.terms.length : Int) > 64 then
      trellislaw11_sound_j1 x1 true r
    else
      trellislaw11_sound_j1 x1 (decide ((x1.syms.length : Int) > 128)) r
def trellislaw11_along_b1 (x11 : List api_Ref) (x6 : List Int) (x1 : List Bool) (x26 : Int) (x27 : Int) (o1 : Sum (Int × Int) (Int × Bool)) : Prop :=
  if x27 < (x11.length : Int) then
    (0 ≤ x27 ∧ x27 < (x11.length : Int)) ∧
    (0 ≤ (ix x11 x27).sym ∧ (ix x11 x27).sym < (x6.length : Int)) ∧
    (0 ≤ (ix x11 x27).sym ∧ (ix x11 x27).sym < (x1.length : Int)) ∧
    if (ix x1 ((ix x11 x27).sym)) = true then
      o1 = .inl (bits .or .u64 x26 (ix x6 ((ix x11 x27).sym)), w64 (x27 + 1))
    else
      o1 = .inr ((bits .or .u64 x26 (ix x6 ((ix x11 x27).sym)), false))
  else
    o1 = .inr ((x26, true))
def trellislaw11_along (x1 : List Bool) (x6 : List Int) (x11 : List api_Ref) (r : Int × Bool) : Prop :=
  Rounds (fun (s : Int × Int) o => trellislaw11_along_b1 x11 x6 x1 s.1 s.2 o) (0, 0) r
def trellislaw11_closed_b2 (x1 : api_Gram) (x14 : List Bool) (x19 : List Int) (x419 : Int) (o2 : Sum Int (Sum Int Bool)) : Prop :=
  if x419 < (x1.prods.length : Int) then
    (0 ≤ x419 ∧ x419 < (x1.prods.length : Int)) ∧
    if (ix x1.prods x419).lhs < 0 then
      o2 = .inl (w64 (x419 + 1))
    else
      ∃ r514 : Int × Bool, (trellislaw11_along x14 x19 ((ix x1.prods x419).rhs) r514) ∧
      (0 ≤ w64 ((x1.terms.length : Int) + ((ix x1.prods x419).lhs)) ∧ w64 ((x1.terms.length : Int) + ((ix x1.prods x419).lhs)) < (x19.length : Int)) ∧
      if bits .andNot .u64 r514.1 (ix x19 (w64 ((x1.terms.length : Int) + ((ix x1.prods x419).lhs)))) = 0 then
        if r514.2 = true then
          (0 ≤ w64 ((x1.terms.length : Int) + ((ix x1.prods x419).lhs)) ∧ w64 ((x1.terms.length : Int) + ((ix x1.prods x419).lhs)) < (x14.length : Int)) ∧
          if (ix x14 (w64 ((x1.terms.length : Int) + ((ix x1.prods x419).lhs)))) = true then
            o2 = .inl (w64 (x419 + 1))
          else
            o2 = .inr (.inr (false))
        else
          o2 = .inl (w64 (x419 + 1))
      else
        o2 = .inr (.inr (false))
  else
    o2 = .inr (.inr (true))
def trellislaw11_closed_b1 (x1 : api_Gram) (x19 : List Int) (x14 : List Bool) (x193 : Int) (o1 : Sum Int Bool) : Prop :=
  if x193 < (x1.terms.length : Int) then
    (0 ≤ x193 ∧ x193 < (x19.length : Int)) ∧
    (0 ≤ IntKind.u64.wrap (x193)) ∧
    if bits .and .u64 (shrV .u64 (ix x19 x193) (IntKind.u64.wrap (x193))) 1 = 1 then
      o1 = .inl (w64 (x193 + 1))
    else
      o1 = .inr (false)
  else
    Rounds (fun (s : Int) o => trellislaw11_closed_b2 x1 x14 x19 s o) 0 o1
def trellislaw11_closed (x1 : api_Gram) (x14 : List Bool) (x19 : List Int) (r : Bool) : Prop :=
  Rounds (fun (s : Int) o => trellislaw11_closed_b1 x1 x19 x14 s o) 0 r
def trellislaw11_FirstLeast_b4 (x1 : api_Gram) (r38 : List Bool) (x14 : List Bool) (r51 : List Int) (x19 : List Int) (x321 : Int) (o2 : Sum Int (Sum Int Bool)) : Prop :=
  if x321 < w64 ((x1.terms.length : Int) + (x1.syms.length : Int)) then
    (0 ≤ x321 ∧ x321 < (r38.length : Int)) ∧
    if (ix r38 x321) = true then
      (0 ≤ x321 ∧ x321 < (x14.length : Int)) ∧
      if (ix x14 x321) = true then
        (0 ≤ x321 ∧ x321 < (r51.length : Int)) ∧
        (0 ≤ x321 ∧ x321 < (x19.length : Int)) ∧
        if bits .andNot .u64 (ix r51 x321) (ix x19 x321) = 0 then
          o2 = .inl (w64 (x321 + 1))
        else
          o2 = .inr (.inr (false))
      else
        o2 = .inr (.inr (false))
    else
      (0 ≤ x321 ∧ x321 < (r51.length : Int)) ∧
      (0 ≤ x321 ∧ x321 < (x19.length : Int)) ∧
      if bits .andNot .u64 (ix r51 x321) (ix x19 x321) = 0 then
        o2 = .inl (w64 (x321 + 1))
      else
        o2 = .inr (.inr (false))
  else
    o2 = .inr (.inr (true))
def trellislaw11_FirstLeast_j3 (x1 : api_Gram) (r38 : List Bool) (x14 : List Bool) (r51 : List Int) (x19 : List Int) (x296 : Bool) (o1 : Sum Int Bool) : Prop :=
  if x296 = true then
    o1 = .inr (true)
  else
    Rounds (fun (s : Int) o => trellislaw11_FirstLeast_b4 x1 r38 x14 r51 x19 s o) 0 o1
def trellislaw11_FirstLeast_b2 (x1 : api_Gram) (r38 : List Bool) (r51 : List Int) (x14 : List Bool) (x19 : List Int) (x181 : Int) (o1 : Sum Int Bool) : Prop :=
  if x181 < (x1.terms.length : Int) then
    (0 ≤ x181 ∧ x181 < (r38.length : Int)) ∧
    if (ix r38 x181) = true then
      o1 = .inr (false)
    else
      (0 ≤ x181 ∧ x181 < (r51.length : Int)) ∧
      (0 ≤ IntKind.u64.wrap (x181)) ∧
      if ix r51 x181 = shlV .u64 1 (IntKind.u64.wrap (x181)) then
        o1 = .inl (w64 (x181 + 1))
      else
        o1 = .inr (false)
  else
    if (x14.length : Int) = w64 ((x1.terms.length : Int) + (x1.syms.length : Int)) then
      if (x19.length : Int) = w64 ((x1.terms.length : Int) + (x1.syms.length : Int)) then
        ∃ r371 : Bool, (trellislaw11_closed x1 x14 x19 r371) ∧
        trellislaw11_FirstLeast_j3 x1 r38 x14 r51 x19 (!r371) o1
      else
        trellislaw11_FirstLeast_j3 x1 r38 x14 r51 x19 true o1
    else
      trellislaw11_FirstLeast_j3 x1 r38 x14 r51 x19 true o1
def trellislaw11_FirstLeast_j1 (x1 : api_Gram) (r38 : List Bool) (r51 : List Int) (x14 : List Bool) (x19 : List Int) (x81 : Bool) (r : Bool) : Prop :=
  if x81 = true then
    r = false
  else
    Rounds (fun (s : Int) o => trellislaw11_FirstLeast_b2 x1 r38 r51 x14 x19 s o) 0 r
def trellislaw11_FirstLeast_j5 (x388 : Bool) (r : Bool) : Prop :=
  r = x388
def trellislaw11_FirstLeast (x1 : api_Gram) (x14 : List Bool) (x19 : List Int) (r : Bool) : Prop :=
  ∃ r29 : Bool, (trellislaw11_started  r29) ∧
  if r29 = true then
    ∃ r38 : List Bool, (first_Nullable x1 r38) ∧
    ∃ r51 : List Int, (first_First x1 r51) ∧
    ∃ r64 : Bool, (trellislaw11_sound x1 r64) ∧
    if r64 = true then
      if (r38.length : Int) = w64 ((x1.terms.length : Int) + (x1.syms.length : Int)) then
        if (r51.length : Int) = w64 ((x1.terms.length : Int) + (x1.syms.length : Int)) then
          ∃ r381 : Bool, (trellislaw11_closed x1 r38 r51 r381) ∧
          trellislaw11_FirstLeast_j1 x1 r38 r51 x14 x19 (!r381) r
        else
          trellislaw11_FirstLeast_j1 x1 r38 r51 x14 x19 true r
      else
        trellislaw11_FirstLeast_j1 x1 r38 r51 x14 x19 true r
    else
      if (r38.length : Int) = 0 then
        trellislaw11_FirstLeast_j5 ((r51.length : Int) == 0) r
      else
        trellislaw11_FirstLeast_j5 false r
  else
    r = false
def trellislaw11_mod (x1 : Int) (x2 : Int) (r : Int) : Prop :=
  (x2 ≠ 0) ∧
  if Int.tmod x1 x2 < 0 then
    r = w64 ((Int.tmod x1 x2) + x2)
  else
    r = Int.tmod x1 x2
def trellislaw11_replaced_b5 (x14 : List api_Ref) (x718 : List api_Ref) (x723 : Int) (o3 : Sum ((List api_Ref) × Int) (Sum ((List api_Ref) × Int) (Sum ((List api_Ref) × Int) (List api_Ref)))) : Prop :=
  if x723 < (x14.length : Int) then
    (0 ≤ x723 ∧ x723 < (x14.length : Int)) ∧
    ∃ x748 : List api_Ref, (x748 = x718 ++ ([ix x14 x723] : List api_Ref)) ∧
    (x748.length * 40 ≤ 140737488355328) ∧
    o3 = .inl (x748, w64 (x723 + 1))
  else
    o3 = .inr (.inr (.inr (x718)))
def trellislaw11_replaced_b4 (x1 : api_Gram) (r39 : Int) (x14 : List api_Ref) (r31 : Int) (x620 : List api_Ref) (x625 : Int) (o2 : Sum ((List api_Ref) × Int) (Sum ((List api_Ref) × Int) (List api_Ref))) : Prop :=
  if x625 < (((ix x1.prods r39).rhs).length : Int) then
    (0 ≤ x625 ∧ x625 < (((ix x1.prods r39).rhs).length : Int)) ∧
    ∃ x699 : List api_Ref, (x699 = x620 ++ ([ix ((ix x1.prods r39).rhs) x625] : List api_Ref)) ∧
    (x699.length * 40 ≤ 140737488355328) ∧
    o2 = .inl (x699, w64 (x625 + 1))
  else
    Rounds (fun (s : (List api_Ref) × Int) o => trellislaw11_replaced_b5 x14 s.1 s.2 o) (x620, w64 (r31 + 1)) o2
def trellislaw11_replaced_b3 (r31 : Int) (x14 : List api_Ref) (x1 : api_Gram) (r39 : Int) (x326 : List api_Ref) (x331 : Int) (o1 : Sum ((List api_Ref) × Int) (List api_Ref)) : Prop :=
  if x331 < r31 then
    (0 ≤ x331 ∧ x331 < (x14.length : Int)) ∧
    ∃ x552 : List api_Ref, (x552 = x326 ++ ([ix x14 x331] : List api_Ref)) ∧
    (x552.length * 40 ≤ 140737488355328) ∧
    o1 = .inl (x552, w64 (x331 + 1))
  else
    Rounds (fun (s : (List api_Ref) × Int) o => trellislaw11_replaced_b4 x1 r39 x14 r31 s.1 s.2 o) (x326, 0) o1
def trellislaw11_replaced_j2 (x14 : List api_Ref) (r31 : Int) (x1 : api_Gram) (r39 : Int) (x112 : Bool) (r : List api_Ref) : Prop :=
  if x112 = true then
    r = x14
  else
    Rounds (fun (s : (List api_Ref) × Int) o => trellislaw11_replaced_b3 r31 x14 x1 r39 s.1 s.2 o) (([] : List api_Ref), 0) r
def trellislaw11_replaced_j1 (x14 : List api_Ref) (x19 : trellislaw11_Replace) (x1 : api_Gram) (x26 : Bool) (r : List api_Ref) : Prop :=
  if x26 = true then
    r = x14
  else
    ∃ r31 : Int, (trellislaw11_mod x19.at_ (x14.length : Int) r31) ∧
    ∃ r39 : Int, (trellislaw11_mod x19.prod (x1.prods.length : Int) r39) ∧
    (0 ≤ r39 ∧ r39 < (x1.prods.length : Int)) ∧
    if (ix x1.prods r39).lhs < 0 then
      trellislaw11_replaced_j2 x14 r31 x1 r39 true r
    else
      (0 ≤ r31 ∧ r31 < (x14.length : Int)) ∧
      if (ix x14 r31).sym = w64 ((x1.terms.length : Int) + ((ix x1.prods r39).lhs)) then
        trellislaw11_replaced_j2 x14 r31 x1 r39 (decide (w64 ((x14.length : Int) + (((ix x1.prods r39).rhs).length : Int)) > 65536)) r
      else
        trellislaw11_replaced_j2 x14 r31 x1 r39 true r
def trellislaw11_replaced (x1 : api_Gram) (x14 : List api_Ref) (x19 : trellislaw11_Replace) (r : List api_Ref) : Prop :=
  if (x14.length : Int) = 0 then
    trellislaw11_replaced_j1 x14 x19 x1 true r
  else
    trellislaw11_replaced_j1 x14 x19 x1 ((x1.prods.length : Int) == 0) r
def trellislaw11_FirstDerives_j3 (r264 : List api_Ref) (x1 : api_Gram) (r39 : Int) (x164 : Int) (x327 : Bool) (o1 : Sum ((List api_Ref) × Int) Bool) : Prop :=
  if x327 = true then
    o1 = .inr (false)
  else
    if (r264.length : Int) > 0 then
      (0 ≤ (0 : Int) ∧ (0 : Int) < (r264.length : Int)) ∧
      if (ix r264 0).sym < (x1.terms.length : Int) then
        (0 ≤ IntKind.u64.wrap ((ix r264 0).sym)) ∧
        if bits .and .u64 (shrV .u64 r39 (IntKind.u64.wrap ((ix r264 0).sym))) 1 = 1 then
          o1 = .inl (r264, w64 (x164 + 1))
        else
          o1 = .inr (false)
      else
        o1 = .inl (r264, w64 (x164 + 1))
    else
      o1 = .inl (r264, w64 (x164 + 1))
def trellislaw11_FirstDerives_b2 (x20 : List trellislaw11_Replace) (x1 : api_Gram) (r39 : Int) (x19 : Int) (x158 : List api_Ref) (x164 : Int) (o1 : Sum ((List api_Ref) × Int) Bool) : Prop :=
  if x164 < (x20.length : Int) then
    (0 ≤ x164 ∧ x164 < (x20.length : Int)) ∧
    ∃ r264 : List api_Ref, (trellislaw11_replaced x1 x158 (ix x20 x164) r264) ∧
    if (r264.length : Int) = 0 then
      trellislaw11_FirstDerives_j3 r264 x1 r39 x164 ((bits .andNot .u64 x19 r39) != 0) o1
    else
      trellislaw11_FirstDerives_j3 r264 x1 r39 x164 false o1
  else
    ∃ r346 : Int, (first_Of x1 x158 x19 r346) ∧
    o1 = .inr (((bits .andNot .u64 r346 r39) == 0))
def trellislaw11_FirstDerives_j1 (r39 : Int) (x20 : List trellislaw11_Replace) (x1 : api_Gram) (x19 : Int) (x14 : List api_Ref) (x62 : Bool) (r : Bool) : Prop :=
  if x62 = true then
    r = (r39 == 0)
  else
    Rounds (fun (s : (List api_Ref) × Int) o => trellislaw11_FirstDerives_b2 x20 x1 r39 x19 s.1 s.2 o) (x14, 0) r
def trellislaw11_FirstDerives (x1 : api_Gram) (x14 : List api_Ref) (x19 : Int) (x20 : List trellislaw11_Replace) (r : Bool) : Prop :=
  ∃ r30 : Bool, (trellislaw11_started  r30) ∧
  if r30 = true then
    ∃ r39 : Int, (first_Of x1 x14 x19 r39) ∧
    ∃ r354 : Bool, (trellislaw11_sound x1 r354) ∧
    if r354 = true then
      ∃ r363 : Bool, (trellislaw11_symbols x1 x14 r363) ∧
      trellislaw11_FirstDerives_j1 r39 x20 x1 x19 x14 (!r363) r
    else
      trellislaw11_FirstDerives_j1 r39 x20 x1 x19 x14 true r
  else
    r = false
def trellislaw11_FirstCuts_j3 (r1830 : Int) (x1 : api_Gram) (x19 : List api_Ref) (x24 : Int) (x14 : List api_Ref) (x1853 : Bool) (o2 : Sum ((List api_Ref) × Int) (Sum ((List api_Ref) × Int) Bool)) : Prop :=
  if x1853 = true then
    o2 = .inr (.inr ((r1830 == 0)))
  else
    ∃ r1858 : Int, (first_Of x1 x19 x24 r1858) ∧
    ∃ r1866 : Int, (first_Of x1 x14 r1858 r1866) ∧
    if r1830 = r1866 then
      ∃ r1875 : Int, (first_Of x1 ([] : List api_Ref) x24 r1875) ∧
      o2 = .inr (.inr ((r1875 == x24)))
    else
      o2 = .inr (.inr (false))
def trellislaw11_FirstCuts_b2 (x19 : List api_Ref) (x1 : api_Gram) (x24 : Int) (x14 : List api_Ref) (x1595 : List api_Ref) (x1600 : Int) (o2 : Sum ((List api_Ref) × Int) (Sum ((List api_Ref) × Int) Bool)) : Prop :=
  if x1600 < (x19.length : Int) then
    (0 ≤ x1600 ∧ x1600 < (x19.length : Int)) ∧
    ∃ x1824 : List api_Ref, (x1824 = x1595 ++ ([ix x19 x1600] : List api_Ref)) ∧
    (x1824.length * 40 ≤ 140737488355328) ∧
    o2 = .inl (x1824, w64 (x1600 + 1))
  else
    ∃ r1830 : Int, (first_Of x1 x1595 x24 r1830) ∧
    ∃ r2015 : Bool, (trellislaw11_sound x1 r2015) ∧
    if r2015 = true then
      ∃ r2024 : Bool, (trellislaw11_symbols x1 x1595 r2024) ∧
      trellislaw11_FirstCuts_j3 r1830 x1 x19 x24 x14 (!r2024) o2
    else
      trellislaw11_FirstCuts_j3 r1830 x1 x19 x24 x14 true o2
def trellislaw11_FirstCuts_b1 (x14 : List api_Ref) (x19 : List api_Ref) (x1 : api_Gram) (x24 : Int) (x701 : List api_Ref) (x706 : Int) (o1 : Sum ((List api_Ref) × Int) Bool) : Prop :=
  if x706 < (x14.length : Int) then
    (0 ≤ x706 ∧ x706 < (x14.length : Int)) ∧
    ∃ x1377 : List api_Ref, (x1377 = x701 ++ ([ix x14 x706] : List api_Ref)) ∧
    (x1377.length * 40 ≤ 140737488355328) ∧
    o1 = .inl (x1377, w64 (x706 + 1))
  else
    Rounds (fun (s : (List api_Ref) × Int) o => trellislaw11_FirstCuts_b2 x19 x1 x24 x14 s.1 s.2 o) (x701, 0) o1
def trellislaw11_FirstCuts (x1 : api_Gram) (x14 : List api_Ref) (x19 : List api_Ref) (x24 : Int) (r : Bool) : Prop :=
  ∃ r30 : Bool, (trellislaw11_started  r30) ∧
  if r30 = true then
    Rounds (fun (s : (List api_Ref) × Int) o => trellislaw11_FirstCuts_b1 x14 x19 x1 x24 s.1 s.2 o) (([] : List api_Ref), 0) r
  else
    r = false
end Go.Proofs.Ytelafghkjlpojaa.R
