/- Lemmas of my own on the machine: structs compared, what was passed over, rows of any kind of element. No condition. -/
import Derived.Test.YtkaejoffnkhbpaaB6
import Derived.Laws.StructEq
import Derived.Laws.Cover3
import Derived.Laws.Pointers
set_option linter.unusedVariables false
set_option linter.unusedSimpArgs false
namespace Go.Proofs.Ytkaejoffnkhbpaa.B
open Go.RowKit
/-! ### structs of plain fields, compared -/
def leafK (P : Program) (t : TypeId) : Option Nat :=
  match P.underlying t with
  | some .bool => some 0
  | some (.int _) => some 1
  | some .string => some 2
  | _ => none
def eqF (P : Program) : List Field → Option (List (Nat × Nat))
  | [] => some []
  | f :: r => match leafK P f.type, eqF P r with
    | some k, some q => if f.name = "_" then none else some ((f.offset, k) :: q)
    | _, _ => none
def eqK (P : Program) (T : TypeId) : Option (List (Nat × Nat)) :=
  match P.underlying T with
  | some (.struct fs) => if P.stoodInHeld T = false ∧ P.eqGuardType P.depth T = false then eqF P fs.toList else none
  | _ => none
def leafEq (k : Nat) : Value → Value → Option Bool
  | .bool a, .bool b => if k = 0 then some (a == b) else none
  | .int j a, .int j' b => if k = 1 ∧ j = j' then some (a == b) else none
  | .string a, .string b => if k = 2 then some (seq a b) else none
  | _, _ => none
def eqRun (xs ys : Array Value) : List (Nat × Nat) → Option Bool
  | [] => some true
  | p :: r => match xs[p.1]?, ys[p.1]? with
    | some a, some b => match leafEq p.2 a b, eqRun xs ys r with
      | some x, some y => some (x && y)
      | _, _ => none
    | _, _ => none
theorem leaf_run {P : Program} {w : World} {t : TypeId} {k : Nat} (hk : leafK P t = some k) {a b : Value} {r : Bool} (hr : leafEq k a b = some r) (d : Nat) : (isAgg t).run P w = .ok false w ∧ (Op.equalIn (d + 1) t a b).run P w = .ok r w := by
  unfold leafK at hk
  split at hk
  · rename_i hu
    simp at hk
    subst hk
    refine ⟨by unfold isAgg; simp [run_underlying hu], ?_⟩
    cases a <;> cases b <;> simp [leafEq] at hr
    subst hr
    exact run_equalIn_bool w d t _ _ hu
  · rename_i kk hu
    simp at hk
    subst hk
    refine ⟨by unfold isAgg; simp [run_underlying hu], ?_⟩
    cases a <;> cases b <;> simp [leafEq] at hr
    obtain ⟨rfl, rfl⟩ := hr
    exact run_equalIn_int w d t _ _ _ _ hu
  · rename_i hu
    simp at hk
    subst hk
    refine ⟨by unfold isAgg; simp [run_underlying hu], ?_⟩
    cases a <;> cases b <;> simp [leafEq] at hr
    subst hr
    exact run_equalIn_string w d t _ _ hu
  · cases hk
theorem eqFields_run {P : Program} {w : World} {xs ys : Array Value} (d : Nat) : ∀ (fs : List Field) (ks : List (Nat × Nat)), eqF P fs = some ks → ∀ b, eqRun xs ys ks = some b → (Op.eqFields (d + 1) xs ys fs).run P w = .ok b w
  | [], ks, h, b, hb => by simp [eqF] at h; subst h; simp [eqRun] at hb; subst hb; simp [Op.eqFields]
  | f :: r, ks, h, b, hb => by
    simp only [eqF] at h
    split at h
    · rename_i k q h1 h2
      split at h
      · cases h
      · rename_i hn
        injection h with h
        subst h
        simp only [eqRun] at hb
        split at hb
        · rename_i u v hu hv
          split at hb
          · rename_i x y hx hy
            injection hb with hb
            subst hb
            obtain ⟨g1, g2⟩ := leaf_run (w := w) h1 hx d
            have ih := eqFields_run (w := w) d r q h2 y hy
            have p1 : (part f.type xs f.offset).run P w = .ok u w := by unfold part; simp [g1, hu]
            have p2 : (part f.type ys f.offset).run P w = .ok v w := by unfold part; simp [g1, hv]
            simp only [Op.eqFields, hn, ne_eq, not_false_iff, if_true, Sem.run_bind, p1, p2, g2, Result.andThen_ok]
            cases x
            · simp
            · simpa using ih
          · cases hb
        · cases hb
    · cases h
theorem eqK_run {P : Program} {w : World} {T : TypeId} {ks : List (Nat × Nat)} (hT : eqK P T = some ks) {xs ys : Array Value} {b : Bool} (hb : eqRun xs ys ks = some b) : (Op.equalIn 10000 T (.agg xs) (.agg ys)).run P w = .ok b w ∧ P.eqGuardType P.depth T = false := by
  unfold eqK at hT
  split at hT
  · rename_i fs hu
    split at hT
    · rename_i hc
      have hf : P.fieldsOf T = fs := by simp [Program.fieldsOf, hu]
      refine ⟨?_, hc.2⟩
      rw [run_equalIn_struct w 9999 T xs ys (by rw [hf]; exact hu) hc.1, hf]
      exact eqFields_run 9998 _ _ hT b hb
    · cases hT
  · cases hT
theorem seq_dec (x y : ByteArray) : seq x y = decide (x = y) := by
  by_cases h : x = y
  · rw [seq_t h, decide_eq_true h]
  · rw [seq_f h, decide_eq_false h]
section ops
variable {C : Cx} {ops : Array Oper} {k : List Item} {l l' : Fm} {M M' : List Ent} {S S' : List Snap} {ty : TypeId} {pos : String} {after : Ed} {g : Gu} {d : Nat} {Nx : Fm → List Ent → List Snap → Prop}
theorem v_eqSt {tx t2 : TypeId} {x y : Operand} {xs ys : Array Value} {ks : List (Nat × Nat)} {b : Bool} (hT : eqK C.P tx = some ks) (hx : evl l x = some (.agg xs)) (hy : evl l y = some (.agg ys)) (hb : eqRun xs ys ks = some b) : Val C ⟨some d, .binOp .eql tx x y t2, ty, pos, after, g⟩ l M S (.bool b) :=
  fun a' w hF _ => by
    obtain ⟨h1, h2⟩ := eqK_run (w := w) hT hb
    simp only [execOp, hF.ev hx, hF.ev hy, Sem.run_bind, run_eqGuard_agg w .eql tx x y xs ys h2, Result.andThen_ok, run_eql_struct, h1, Sem.run_pure]
theorem v_neSt {tx t2 : TypeId} {x y : Operand} {xs ys : Array Value} {ks : List (Nat × Nat)} {b : Bool} (hT : eqK C.P tx = some ks) (hx : evl l x = some (.agg xs)) (hy : evl l y = some (.agg ys)) (hb : eqRun xs ys ks = some b) : Val C ⟨some d, .binOp .neq tx x y t2, ty, pos, after, g⟩ l M S (.bool (!b)) :=
  fun a' w hF _ => by
    obtain ⟨h1, h2⟩ := eqK_run (w := w) hT hb
    simp only [execOp, hF.ev hx, hF.ev hy, Sem.run_bind, run_eqGuard_agg w .neq tx x y xs ys h2, Result.andThen_ok, run_neq_struct, h1, Sem.run_pure]
theorem v_max {x y : Operand} {kk : IntKind} {a b : Int} {ts : Array TypeId} (hx : evl l x = some (.int kk a)) (hy : evl l y = some (.int kk b)) : Val C ⟨some d, .call { callee := .builtin .max, args := #[x, y], argTypes := ts }, ty, pos, after, g⟩ l M S (.int kk (max a b)) :=
  fun a' w hF _ => by
    have : (Builtin.max2 (.int kk a) (.int kk b)).run C.P w = .ok (.int kk (max a b)) w := by
      simp only [Builtin.max2]
      first
        | (split <;> simp_all [Int.max_def] <;> omega)
        | simp [Int.max_def]
    simp [execOp, hF.ev hx, hF.ev hy, resolve, invoke, builtin, Builtin.max_, this, Sem.run_pure, Sem.run_bind]
/-! ### operations that are passed over; their slots hold nothing -/
theorem Fr.undef {n : Nat} {l : Fm} {a : Act} (h : Fr n l a) (d : Nat) : Fr n ((d, undef) :: l) (a.put (some d) undef) := by
  refine ⟨h.1, by simp [Act.put, h.2.1], fun t v ht => ?_⟩
  simp only [look] at ht
  by_cases e : d = t
  · subst e
    simp at ht
    subst ht
    by_cases hd : d < a.tmps.size
    · simp [Act.put, Array.getD_eq_getD_getElem?, hd]
    · simp [Act.put, Array.getD_eq_getD_getElem?, hd]
  · rw [nbeq e] at ht
    have := h.2.2 t v ht
    simpa [Act.put, Array.getD_eq_getD_getElem?, Array.getElem?_setIfInBounds, e] using this
def Pass (ops : Array Oper) (l : Fm) (j : Nat) (b : Bool) : Prop := ∃ t, (ops[j]?).bind (·.dst) = some t ∧ (look l t = some (.bool (!b)) ∨ look l t = some undef)
theorem ps {ops : Array Oper} {l : Fm} {j : Nat} {b : Bool} (t : Nat) {b' : Bool} (h1 : (ops[j]?).bind (·.dst) = some t) (h2 : look l t = some (.bool b')) (hb : b' = !b) : Pass ops l j b := ⟨t, h1, .inl (hb ▸ h2)⟩
theorem pu {ops : Array Oper} {l : Fm} {j : Nat} {b : Bool} (t : Nat) (h1 : (ops[j]?).bind (·.dst) = some t) (h2 : look l t = some undef) : Pass ops l j b := ⟨t, h1, .inr h2⟩
theorem Pass.not {n j : Nat} {b : Bool} {a : Act} (h : Pass ops l j b) (hF : Fr n l a) {op : Op} {dst : Option Nat} : Region.wanted (⟨dst, op, ty, pos, after, some (j, b)⟩ : Oper) (yielded ops a.tmps) = false := by
  obtain ⟨t, h1, h2 | h2⟩ := h
  · simp only [Region.wanted, yielded_of hF h1 h2]
    cases b <;> simp
  · have h3 := hF.2.2 t _ h2
    have : yielded ops a.tmps j = none := by
      unfold yielded
      rw [h1]
      simp only [Option.bind_some]
      rw [Array.getD_eq_getD_getElem?] at h3
      cases h5 : a.tmps[t]? with
      | none => rfl
      | some u => rw [h5] at h3; simp at h3; subst h3; rfl
    simp [Region.wanted, this]
theorem wl_pass (i : Nat) {op : Op} {j : Nat} {b : Bool} (ho : ops[i]? = some ⟨some d, op, ty, pos, after, some (j, b)⟩) (hp : Pass ops l j b) (h : WL C ops (i + 1) k ((d, undef) :: l) M S) : WL C ops i k l M S := by
  intro a w hF hL
  rw [drop_cons ho]
  unfold wpList
  rw [if_neg (by rw [hp.not hF]; simp)]
  exact h _ w (hF.undef d) hL
theorem wl_passN (i : Nat) {op : Op} {j : Nat} {b : Bool} (ho : ops[i]? = some ⟨none, op, ty, pos, after, some (j, b)⟩) (hp : Pass ops l j b) (h : WL C ops (i + 1) k l M S) : WL C ops i k l M S := by
  intro a w hF hL
  rw [drop_cons ho]
  unfold wpList
  rw [if_neg (by rw [hp.not hF]; simp)]
  exact h _ w hF hL
theorem wa_pass {Mi : List Ent} {Si : List Snap} {fuel : Nat} {lst lst' : Array Bool} (i : Nat) {op : Op} {j : Nat} {b : Bool} (ho : ops[i]? = some ⟨some d, op, ty, pos, after, some (j, b)⟩) (hp : Pass ops l j b) (hs : Region.noSelect ops = true) (hf : Region.free .any ops lst i = true)
    (hr : (Region.ready .any ops lst).contains i = true) (hl : lst.setIfInBounds i true = lst') (h : WA C ops Mi Si fuel lst' k ((d, undef) :: l) M S) : WA C ops Mi Si (fuel + 1) lst k l M S := fun a w hF hL hH => by
  subst hl
  exact wpAnyH_take ho hs hf hr (Qk_panic _ _) (.inr ⟨hp.not hF, rfl⟩) hH (h _ w (hF.undef d) hL hH)
end ops
end Go.Proofs.Ytkaejoffnkhbpaa.B
