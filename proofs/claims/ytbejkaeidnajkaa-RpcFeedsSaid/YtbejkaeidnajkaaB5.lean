/- Lemmas of my own on the machine: cuts, makes, stores, texts, what is compared. No condition. -/
import Derived.Test.YtbejkaeidnajkaaB4
import Derived.Laws.StructEq
import Derived.Laws.Cover3
import Derived.Laws.Pointers
import Derived.Laws.Externs
import Derived.Lib.ConvBytes
set_option linter.unusedVariables false
set_option linter.unusedSimpArgs false
namespace Go.Proofs.Ytbejkaeidnajkaa.B
open Go.RowKit
theorem if_pos' {c A B : Prop} [Decidable c] (hc : c) (h : if c then A else B) : A := by rwa [if_pos hc] at h
theorem if_neg' {c A B : Prop} [Decidable c] (hc : ¬ c) (h : if c then A else B) : B := by rwa [if_neg hc] at h
theorem eqi {a b : Int} (h : a = b) : (a == b) = true := beq_iff_eq.2 h
theorem nei {a b : Int} (h : ¬ a = b) : (a == b) = false := beq_eq_false_iff_ne.2 h
theorem eqib {a b : Int} (h : a = b) : (a != b) = false := by simp [bne, h]
theorem neib {a b : Int} (h : ¬ a = b) : (a != b) = true := by simp [bne, h]
theorem nt {b : Bool} (h : b = false) : (!b) = true := by rw [h]; rfl
theorem nf {b : Bool} (h : b = true) : (!b) = false := by rw [h]; rfl
theorem bf {b : Bool} (h : ¬ b = true) : b = false := Bool.eq_false_iff.2 h
theorem seq_t {x y : ByteArray} (h : x = y) : seq x y = true := by simp [seq, h]
theorem toList_loop (bs : ByteArray) : ∀ (n i : Nat) (r : List UInt8), bs.size - i = n → ByteArray.toList.loop bs i r = r.reverse ++ bs.data.toList.drop i
  | 0, i, r, h => by
    rw [ByteArray.toList.loop, if_neg (by omega), List.drop_eq_nil_of_le (by have : bs.data.toList.length = bs.size := (by simp); omega)]
    simp
  | n + 1, i, r, h => by
    have hi : i < bs.size := by omega
    have hl : i < bs.data.toList.length := by have : bs.data.toList.length = bs.size := by simp
                                              omega
    rw [ByteArray.toList.loop, if_pos hi, toList_loop bs n (i + 1) _ (by omega), List.drop_eq_getElem_cons hl]
    have : bs.get! i = bs.data.toList[i] := by
      cases bs with
      | mk d =>
        have hd : i < d.size := by simpa using hl
        show d[i]! = _
        simp [getElem!_pos, hd]
    simp [this]
theorem toList_data (bs : ByteArray) : bs.toList = bs.data.toList := by
  rw [ByteArray.toList, toList_loop bs _ 0 [] rfl]; simp
theorem seq_f {x y : ByteArray} (h : ¬ x = y) : seq x y = false := by
  refine Bool.eq_false_iff.2 fun e => h ?_
  have e1 : x.toList = y.toList := by simpa [seq] using e
  rw [toList_data, toList_data] at e1
  cases x; cases y
  simp at e1
  simp [e1]
abbrev eI (k : IntKind) (x : Int) : List Value := [.int k x]
abbrev eB (x : Bool) : List Value := [.bool x]
abbrev eS (x : ByteArray) : List Value := [.string x]
theorem hlI (k : IntKind) : ∀ x, (eI k x).length = 1 := fun _ => rfl
theorem hlB : ∀ x, (eB x).length = 1 := fun _ => rfl
theorem hlS : ∀ x, (eS x).length = 1 := fun _ => rfl
def leafK (P : Program) (t : TypeId) : Option Nat :=
  match P.underlying t with
  | some .bool => some 0
  | some (.int _) => some 1
  | some .string => some 2
  | _ => none
def eqF (P : Program) : List Field → Option (List (Nat × Nat))
  | [] => some []
  | f :: r => match leafK P f.type, eqF P r with
    | some k, some q => if f.name = "_" then none else some ((f.offset, k) :: q)
    | _, _ => none
def eqK (P : Program) (T : TypeId) : Option (List (Nat × Nat)) :=
  match P.underlying T with
  | some (.struct fs) => if P.stoodInHeld T = false ∧ P.eqGuardType P.depth T = false then eqF P fs.toList else none
  | _ => none
def leafEq (k : Nat) : Value → Value → Option Bool
  | .bool a, .bool b => if k = 0 then some (a == b) else none
  | .int j a, .int j' b => if k = 1 ∧ j = j' then some (a == b) else none
  | .string a, .string b => if k = 2 then some (seq a b) else none
  | _, _ => none
def eqRun (xs ys : Array Value) : List (Nat × Nat) → Option Bool
  | [] => some true
  | p :: r => match xs[p.1]?, ys[p.1]? with
    | some a, some b => match leafEq p.2 a b, eqRun xs ys r with
      | some x, some y => some (x && y)
      | _, _ => none
    | _, _ => none
theorem leaf_run {P : Program} {w : World} {t : TypeId} {k : Nat} (hk : leafK P t = some k) {a b : Value} {r : Bool} (hr : leafEq k a b = some r) (d : Nat) : (isAgg t).run P w = .ok false w ∧ (Op.equalIn (d + 1) t a b).run P w = .ok r w := by
  unfold leafK at hk
  split at hk
  · rename_i hu
    simp at hk
    subst hk
    refine ⟨by unfold isAgg; simp [run_underlying hu], ?_⟩
    cases a <;> cases b <;> simp [leafEq] at hr
    subst hr
    exact run_equalIn_bool w d t _ _ hu
  · rename_i kk hu
    simp at hk
    subst hk
    refine ⟨by unfold isAgg; simp [run_underlying hu], ?_⟩
    cases a <;> cases b <;> simp [leafEq] at hr
    obtain ⟨rfl, rfl⟩ := hr
    exact run_equalIn_int w d t _ _ _ _ hu
  · rename_i hu
    simp at hk
    subst hk
    refine ⟨by unfold isAgg; simp [run_underlying hu], ?_⟩
    cases a <;> cases b <;> simp [leafEq] at hr
    subst hr
    exact run_equalIn_string w d t _ _ hu
  · cases hk
theorem eqFields_run {P : Program} {w : World} {xs ys : Array Value} (d : Nat) : ∀ (fs : List Field) (ks : List (Nat × Nat)), eqF P fs = some ks → ∀ b, eqRun xs ys ks = some b → (Op.eqFields (d + 1) xs ys fs).run P w = .ok b w
  | [], ks, h, b, hb => by simp [eqF] at h; subst h; simp [eqRun] at hb; subst hb; simp [Op.eqFields]
  | f :: r, ks, h, b, hb => by
    simp only [eqF] at h
    split at h
    · rename_i k q h1 h2
      split at h
      · cases h
      · rename_i hn
        injection h with h
        subst h
        simp only [eqRun] at hb
        split at hb
        · rename_i u v hu hv
          split at hb
          · rename_i x y hx hy
            injection hb with hb
            subst hb
            obtain ⟨g1, g2⟩ := leaf_run (w := w) h1 hx d
            have ih := eqFields_run (w := w) d r q h2 y hy
            have p1 : (part f.type xs f.offset).run P w = .ok u w := by unfold part; simp [g1, hu]
            have p2 : (part f.type ys f.offset).run P w = .ok v w := by unfold part; simp [g1, hv]
            simp only [Op.eqFields, hn, ne_eq, not_false_iff, if_true, Sem.run_bind, p1, p2, g2, Result.andThen_ok]
            cases x
            · simp
            · simpa using ih
          · cases hb
        · cases hb
    · cases h
theorem eqK_run {P : Program} {w : World} {T : TypeId} {ks : List (Nat × Nat)} (hT : eqK P T = some ks) {xs ys : Array Value} {b : Bool} (hb : eqRun xs ys ks = some b) : (Op.equalIn 10000 T (.agg xs) (.agg ys)).run P w = .ok b w ∧ P.eqGuardType P.depth T = false := by
  unfold eqK at hT
  split at hT
  · rename_i fs hu
    split at hT
    · rename_i hc
      have hf : P.fieldsOf T = fs := by simp [Program.fieldsOf, hu]
      refine ⟨?_, hc.2⟩
      rw [run_equalIn_struct w 9999 T xs ys (by rw [hf]; exact hu) hc.1, hf]
      exact eqFields_run 9998 _ _ hT b hb
    · cases hT
  · cases hT
theorem seq_dec (x y : ByteArray) : seq x y = decide (x = y) := by
  by_cases h : x = y
  · rw [seq_t h, decide_eq_true h]
  · rw [seq_f h, decide_eq_false h]
theorem ofBs_snoc (xs : List Int) (x : Int) : ofBs (xs ++ [x]) = (ofBs xs).push (UInt8.ofNat x.toNat) := by
  simp [ofBs, ByteArray.push]
theorem run_pushes {P : Program} {w : World} (f : Value → ByteArray → Sem (ForInStep ByteArray)) (hf : ∀ n s, f (.int .u8 n) s = pure (.yield (s.push (UInt8.ofNat n.toNat)))) : ∀ (ys xs : List Int), (forIn (ys.map (Value.int .u8)) (ofBs xs) f : Sem ByteArray).run P w = .ok (ofBs (xs ++ ys)) w
  | [], xs => by simp
  | y :: ys, xs => by
    have ih := run_pushes (P := P) (w := w) f hf ys (xs ++ [y])
    rw [ofBs_snoc] at ih
    simp only [List.map_cons, List.forIn_cons, hf, Sem.run_bind, Sem.run_pure, Result.andThen_ok]
    rw [ih]
    simp
theorem fm_int (k : IntKind) (xs : List Int) : xs.flatMap (eI k) = xs.map (Value.int k) := by
  induction xs with
  | nil => rfl
  | cons x xs ih => rw [List.flatMap_cons, ih]; rfl
theorem run_b2s {P : Program} {w : World} {A : Option Addr} {n c : Nat} {xs : List Int} (hn : n = xs.length) (hA : 0 < n → A.isSome = true) (hc : ∀ j u, (xs.flatMap (eI .u8))[j]? = some u → celA w A j = some u) : (Conv.bytesToString (.slice A n c)).run P w = .ok (.string (ofBs xs)) w := by
  subst hn
  cases A with
  | none =>
    have : xs = [] := List.eq_nil_of_length_eq_zero (Nat.eq_zero_of_not_pos fun h => by simpa using hA h)
    subst this
    simp [Conv.bytesToString, ofBs]
    rfl
  | some a =>
    have h1 := run_loadCells_list (P := P) (w := w) a (xs.flatMap (eI .u8)) (fun j v hj => hc j v hj)
    rw [show (xs.flatMap (eI .u8)).length = xs.length by rw [fm_int]; simp] at h1
    simp only [Conv.bytesToString, Sem.run_bind, h1, Result.andThen_ok, ← Array.forIn_toList]
    rw [fm_int]
    have h0 : ofBs [] = ByteArray.empty := rfl
    rw [← h0]
    rw [run_pushes (P := P) (w := w) _ (fun n s => rfl) xs []]
    simp
def u8K (P : Program) (T : TypeId) : Bool := match P.underlying T with
  | some (.slice e) => match P.underlying e with
    | some (.int .u8) => true
    | _ => false
  | _ => false
theorem u8K_spec {P : Program} {T : TypeId} (h : u8K P T = true) : ∃ e, P.underlying T = some (.slice e) ∧ P.underlying e = some (.int .u8) := by
  unfold u8K at h
  split at h
  · rename_i e he
    split at h
    · rename_i h2; exact ⟨e, he, h2⟩
    · cases h
  · cases h
theorem run_conv_b2s {P : Program} {w : World} {t1 t2 : TypeId} (h1 : u8K P t1 = true) (h2 : P.underlying t2 = some .string) {A : Option Addr} {n c : Nat} {s : ByteArray} (h : (Conv.bytesToString (.slice A n c)).run P w = .ok (.string s) w) : (convert t1 t2 (.slice A n c)).run P w = .ok (.string s) w := by
  obtain ⟨e, g1, g2⟩ := u8K_spec h1
  simp [convert, run_underlying g1, run_underlying g2, run_underlying h2, h]

def evA (l : Fm) : List Operand → Option (List Value)
  | [] => some []
  | x :: r => match evl l x, evA l r with
    | some v, some q => some (v :: q)
    | _, _ => none
theorem evA_spec {l : Fm} {n : Nat} {a : Act} (hF : Fr n l a) : ∀ (xs : List Operand) (vs : List Value), evA l xs = some vs → xs.map a.eval = vs
  | [], vs, h => by simp [evA] at h; subst h; rfl
  | x :: r, vs, h => by
    simp only [evA] at h
    split at h
    · rename_i v q h1 h2
      injection h with h
      subst h
      simp [hF.ev h1, evA_spec hF r q h2]
    · cases h
section ops
variable {C : Cx} {ops : Array Oper} {k : List Item} {l l' : Fm} {M M' : List Ent} {S S' : List Snap} {ty : TypeId} {pos : String} {after : Ed} {g : Gu} {d : Nat} {Nx : Fm → List Ent → List Snap → Prop} {F : Nat → Prop}
theorem v_cutS {T : Nat} {x : Operand} {lo hi : Option Operand} {s : ByteArray} (lv hv : Int) (hT : C.P.underlying T = some .string) (hx : evl l x = some (.string s)) (hlo : lo = none ∧ lv = 0 ∨ ∃ y kk, lo = some y ∧ evl l y = some (.int kk lv)) (hhi : hi = none ∧ hv = s.size ∨ ∃ y kk, hi = some y ∧ evl l y = some (.int kk hv)) (h1 : 0 ≤ lv ∧ lv ≤ hv)
    (h2 : hv ≤ (s.size : Int)) : Val C ⟨some d, .slice T x lo hi none, ty, pos, after, g⟩ l M S (.string (s.extract lv.toNat hv.toNat)) :=
  fun a w hF _ => by
    have h3 : 0 ≤ hv := by omega
    have h4 : 0 ≤ lv ∧ lv ≤ (s.size : Int) := by omega
    rcases hlo with ⟨rfl, rfl⟩ | ⟨y, kk, rfl, hy⟩ <;> rcases hhi with ⟨rfl, rfl⟩ | ⟨z, k2, rfl, hz⟩
    · simp [execOp, hF.ev hx, Instr.sliceAt, run_underlying hT, Instr.slice, Instr.sliceBounds, Sem.run_pure, Sem.run_bind]
    · simp [execOp, hF.ev hx, hF.ev hz, Instr.sliceAt, run_underlying hT, Instr.slice, Instr.sliceBounds, Instr.sliceBound, asIntOf, h2, h3, Sem.run_pure, Sem.run_bind]
    · simp [execOp, hF.ev hx, hF.ev hy, Instr.sliceAt, run_underlying hT, Instr.slice, Instr.sliceBounds, Instr.sliceBound, asIntOf, h1.1, h4.2, Sem.run_pure, Sem.run_bind]
    · have h5 : ((hv.toNat : Nat) : Int) = hv := by omega
      simp only [execOp, hF.ev hx, hF.ev hy, hF.ev hz, Option.map_some, Option.map_none, Instr.sliceAt, run_underlying hT, Instr.slice, Instr.sliceBounds, Instr.sliceBound, asIntOf, Sem.run_pure, Sem.run_bind, Result.andThen_ok, h2, h3, and_self, if_true, h5, h1.1, h1.2, Option.isSome_none, Bool.false_eq_true, if_false]
def mkK (P : Program) (T : Nat) : Option (Nat × List Value × Nat) :=
  match P.underlying T with
  | some (.slice e) => match P.info? e with
    | some ie => match ie.zero with
      | some z => if z.cells.size = ie.size then some (e, z.cells.toList, ie.bytes) else none
      | none => none
    | none => none
  | _ => none
theorem made_flat {α : Type} {enc : α → List Value} {z : α} {zs : List Value} (hz : enc z = zs) (h0 : 0 < zs.length) : ∀ n : Nat, (madeCells zs.toArray (n * zs.length)).toList = (List.replicate n z).flatMap enc := by
  have hl : ∀ n, ((List.replicate n z).flatMap enc).length = n * zs.length := by
    intro n
    induction n with
    | zero => simp
    | succ n ih => rw [List.replicate_succ, List.flatMap_cons, List.length_append, ih, hz, Nat.add_mul]; omega
  have hg : ∀ n q, q < n * zs.length → ((List.replicate n z).flatMap enc)[q]? = zs[q % zs.length]? := by
    intro n
    induction n with
    | zero => intro q hq; omega
    | succ n ih =>
      intro q hq
      rw [List.replicate_succ, List.flatMap_cons, hz]
      by_cases h : q < zs.length
      · rw [List.getElem?_append_left h, Nat.mod_eq_of_lt h]
      · rw [List.getElem?_append_right (by omega), ih (q - zs.length) (by rw [Nat.add_mul] at hq; omega), Nat.mod_eq_sub_mod (by omega : zs.length ≤ q)]
  intro n
  apply List.ext_getElem?
  intro q
  by_cases hq : q < n * zs.length
  · rw [hg n q hq]
    have hm : q % zs.length < zs.length := Nat.mod_lt _ h0
    simp [madeCells, hq, hm]
  · rw [List.getElem?_eq_none (by rw [Array.length_toList, size_madeCells]; omega), List.getElem?_eq_none (by rw [hl]; omega)]
theorem s_make {α : Type} {enc : α → List Value} {z : α} {T e bytes : Nat} {zs : List Value} {x y : Operand} {kk : IntKind} {i : Int} (hT : mkK C.P T = some (e, zs, bytes)) (hz : enc z = zs) (h0 : 0 < zs.length) (hx : evl l x = some (.int kk i)) (hy : evl l y = some (.int kk i)) (hi : 0 ≤ i) (hb : i * bytes ≤ 281474976710656) (hb0 : 0 < bytes) (hd : Nat.ble (d + 1) C.n = true)
    (h : ∀ A, Ow C.w0.heap.size A i.toNat i.toNat (List.replicate i.toNat z) → Nx ((d, .slice A i.toNat i.toNat) :: l) (.own (.slice A i.toNat i.toNat) e zs.length i.toNat ((List.replicate i.toNat z).flatMap enc) :: M) S) :
    Stp C ⟨some d, .makeSlice T x y, ty, pos, after, g⟩ l M S Nx :=
  s_run hd fun a w hF hL => by
    unfold mkK at hT
    split at hT
    · rename_i e' hu
      split at hT
      · rename_i ie hie
        split at hT
        · rename_i z' hz'
          split at hT
          · rename_i hsz
            simp only [Option.some.injEq, Prod.mk.injEq] at hT
            obtain ⟨rfl, rfl, rfl⟩ := hT
            obtain ⟨n, rfl⟩ := Int.eq_ofNat_of_zero_le hi
            have hb' : ie.bytes * n ≤ 281474976710656 := by
              have : ((n * ie.bytes : Nat) : Int) ≤ 281474976710656 := by rw [Int.natCast_mul]; exact hb
              rw [Nat.mul_comm]; omega
            have hn : n ≤ 281474976710656 := Nat.le_trans (Nat.le_mul_of_pos_left _ hb0) hb'
            have hsl : z'.cells.toList.length = ie.size := by simpa using hsz
            obtain ⟨w', h1, h2, h3⟩ := run_make_full (P := C.P) w 0 T e' ie z' ie.size hu hie hz' rfl kk kk n hb' (by unfold maxLen; omega) (Nat.zero_le _)
            rw [show (madeCells z'.cells (n * ie.size)).toList = (List.replicate n z).flatMap enc from by
              have := made_flat hz h0 n
              rw [hsl] at this
              simpa using this] at h2
            simp only [Int.toNat_natCast] at h ⊢
            rw [hsl] at h
            refine ⟨_, w', _, _, ?_, hL.add (e := .own (.slice (some ⟨w.heap.size, 0, none⟩) n n) e' ie.size n ((List.replicate n z).flatMap enc)) (Chg.of_grown h3) (Orow.of_owns h2) (fun b hb => by simp [Ent.blk, Value.ownBlock] at hb; omega), h _ ⟨List.length_replicate.symm, fun _ => rfl, Nat.le_refl _, by unfold maxLen; omega, fun b hb => by have := hL.env.size; simp [Value.ownBlock] at hb; omega⟩⟩
            simp [execOp, hF.ev hx, hF.ev hy, h1, Sem.run_pure, Sem.run_bind]
          · cases hT
        · cases hT
      · cases hT
    · cases hT

theorem s_stF {α : Type} [Inhabited α] {z0 : Nat} {enc : α → List Value} {T m : Nat} {x y : Operand} {A : Option Addr} {o e sz n c : Nat} {i : Int} {xs ys : List α} {z : α} {vs : List Value} {v : Value} (j : Nat) (hl : ∀ x, (enc x).length = sz) (hT : szK C.P T = some m) (hx : evl l x = some (eA A (i.toNat * sz + o))) (hy : evl l y = some v)
    (hM : M[j]? = some (.own (.slice A n c) e sz n (xs.flatMap enc))) (hv : v.cells.toList = vs) (hm : vs.length = m) (hq : Ow z0 A n c xs) (hb : 0 ≤ i ∧ i < (xs.length : Int)) (h1 : vs.all Value.oneCell' = true) (hz : setsL (enc (ix xs i)) o vs = enc z) (ho : Nat.ble (o + m) sz = true) (hys : ys = xs.set i.toNat z)
    (h : Ow z0 A n c ys → Nx l (M.set j (.own (.slice A n c) e sz n (ys.flatMap enc))) S) : Stp C ⟨none, .store T x y, ty, pos, after, g⟩ l M S Nx := by
  have ho' := Nat.le_of_ble_eq_true ho
  have hlt : i.toNat < xs.length := by omega
  have hle : (i.toNat + 1) * sz ≤ xs.length * sz := Nat.mul_le_mul_right _ hlt
  rw [Nat.add_mul, Nat.one_mul] at hle
  refine s_stO j hT hx hy hM hv hm (by rw [fm_len hl]; omega) (by rw [hq.hq]; omega) h1 rfl ?_
  rw [fm_set hl hb hz (by rw [hm]; exact ho'), ← hys]
  exact h (hq.w (by rw [hys, List.length_set]))
theorem s_stC {α : Type} [Inhabited α] {z0 : Nat} {dk : Kd α} {T m : Nat} {x y : Operand} {A : Option Addr} {o e n c : Nat} {i : Int} {xs ys : List α} {z : α} {cells cells' vs : List Value} {v : Value} {w : World} (j : Nat) (hT : szK C.P T = some m) (hx : evl l x = some (eA A (i.toNat * dk.sz + o))) (hy : evl l y = some v)
    (hM : M[j]? = some (.own (.slice A n c) e dk.sz n cells)) (hv : v.cells.toList = vs) (hm : vs.length = m) (hq : Ow z0 A n c xs) (hC : Cells dk w F xs cells) (hb : 0 ≤ i ∧ i < (xs.length : Int)) (h1 : vs.all Value.oneCell' = true) (hc : setsL cells (i.toNat * dk.sz + o) vs = cells') (ho : Nat.ble (o + m) dk.sz = true) (hys : ys = xs.set i.toNat z)
    (h : Ow z0 A n c ys → Nx l (M.set j (.own (.slice A n c) e dk.sz n cells')) S) : Stp C ⟨none, .store T x y, ty, pos, after, g⟩ l M S Nx := by
  have ho' := Nat.le_of_ble_eq_true ho
  have hlt : i.toNat < xs.length := by omega
  have hle : (i.toNat + 1) * dk.sz ≤ xs.length * dk.sz := Nat.mul_le_mul_right _ hlt
  rw [Nat.add_mul, Nat.one_mul] at hle
  refine s_stO j hT hx hy hM hv hm (by rw [hC.len]; omega) (by rw [hq.hq]; omega) h1 rfl ?_
  rw [hc]
  exact h (hq.w (by rw [hys, List.length_set]))
def fdK (P : Program) (T f : Nat) : Option (Nat × Option Nat) :=
  match P.underlying T with
  | some (.struct fs) => match fs[f]? with
    | some fd => (ldK P fd.type).map fun m => (fd.offset, m)
    | none => none
  | _ => none
theorem fdK_spec {P : Program} {T f off : Nat} {m : Option Nat} (h : fdK P T f = some (off, m)) : ∃ fs fd, P.underlying T = some (.struct fs) ∧ fs[f]? = some fd ∧ ldK P fd.type = some m ∧ fd.offset = off := by
  unfold fdK at h
  split at h
  · rename_i fs hfs
    split at h
    · rename_i fd hfd
      rcases hl : ldK P fd.type with _ | m'
      · rw [hl] at h; cases h
      · rw [hl] at h
        simp at h
        obtain ⟨rfl, rfl⟩ := h
        exact ⟨fs, fd, hfs, hfd, hl, rfl⟩
    · cases h
  · cases h
theorem v_field1 {T f off : Nat} {x : Operand} {cs : Array Value} {v : Value} (hT : fdK C.P T f = some (off, none)) (hx : evl l x = some (.agg cs)) (hv : cs[off]? = some v) : Val C ⟨some d, .field T x f, ty, pos, after, g⟩ l M S v :=
  fun a w hF hL => by
    obtain ⟨fs, fd, h1, h2, h3, h4⟩ := fdK_spec hT
    have hx' := hF.ev hx
    simp [execOp, hx', Instr.field, run_underlying h1, h2, asAgg, part, ldK_one h3, h4, hv, Sem.run_pure, Sem.run_bind]
theorem v_field {T f off m : Nat} {x : Operand} {cs vs : Array Value} (hT : fdK C.P T f = some (off, some m)) (hx : evl l x = some (.agg cs)) (hv : cs.extract off (off + m) = vs) : Val C ⟨some d, .field T x f, ty, pos, after, g⟩ l M S (.agg vs) :=
  fun a w hF hL => by
    obtain ⟨fs, fd, h1, h2, h3, h4⟩ := fdK_spec hT
    obtain ⟨h5, i, h6, h7⟩ := ldK_agg h3
    have hx' := hF.ev hx
    simp [execOp, hx', Instr.field, run_underlying h1, h2, asAgg, part, h5, h4, sizeOf, typeInfo, h6, h7, hv, Sem.run_pure, Sem.run_bind]
theorem v_eqSt {tx t2 : TypeId} {x y : Operand} {xs ys : Array Value} {ks : List (Nat × Nat)} {b : Bool} (hT : eqK C.P tx = some ks) (hx : evl l x = some (.agg xs)) (hy : evl l y = some (.agg ys)) (hb : eqRun xs ys ks = some b) : Val C ⟨some d, .binOp .eql tx x y t2, ty, pos, after, g⟩ l M S (.bool b) :=
  fun a' w hF _ => by
    obtain ⟨h1, h2⟩ := eqK_run (w := w) hT hb
    simp only [execOp, hF.ev hx, hF.ev hy, Sem.run_bind, run_eqGuard_agg w .eql tx x y xs ys h2, Result.andThen_ok, run_eql_struct, h1, Sem.run_pure]
theorem v_neSt {tx t2 : TypeId} {x y : Operand} {xs ys : Array Value} {ks : List (Nat × Nat)} {b : Bool} (hT : eqK C.P tx = some ks) (hx : evl l x = some (.agg xs)) (hy : evl l y = some (.agg ys)) (hb : eqRun xs ys ks = some b) : Val C ⟨some d, .binOp .neq tx x y t2, ty, pos, after, g⟩ l M S (.bool (!b)) :=
  fun a' w hF _ => by
    obtain ⟨h1, h2⟩ := eqK_run (w := w) hT hb
    simp only [execOp, hF.ev hx, hF.ev hy, Sem.run_bind, run_eqGuard_agg w .neq tx x y xs ys h2, Result.andThen_ok, run_neq_struct, h1, Sem.run_pure]
theorem v_max {x y : Operand} {kk : IntKind} {a b : Int} {ts : Array TypeId} (hx : evl l x = some (.int kk a)) (hy : evl l y = some (.int kk b)) : Val C ⟨some d, .call { callee := .builtin .max, args := #[x, y], argTypes := ts }, ty, pos, after, g⟩ l M S (.int kk (max a b)) :=
  fun a' w hF _ => by
    have : (Builtin.max2 (.int kk a) (.int kk b)).run C.P w = .ok (.int kk (max a b)) w := by
      simp only [Builtin.max2]
      first
        | (split <;> simp_all [Int.max_def] <;> omega)
        | simp [Int.max_def]
    simp [execOp, hF.ev hx, hF.ev hy, resolve, invoke, builtin, Builtin.max_, this, Sem.run_pure, Sem.run_bind]
theorem run_s2b {P : Program} {w : World} {t1 t2 : TypeId} (h1 : P.underlying t1 = some .string) (h2 : u8K P t2 = true) (s : ByteArray) (hs : s.size ≤ 4294967296) :
    ∃ A c w', (convert t1 t2 (.string s)).run P w = .ok (.slice A s.size c) w' ∧ s.size ≤ c ∧ c ≤ maxLen ∧ Below w.heap.size w w' ∧ RowOf (kInt .u8) w' (fun b => w.heap.size ≤ b ∧ b < w'.heap.size) A (bsOf s) := by
  obtain ⟨e, g1, g2⟩ := u8K_spec h2
  refine ⟨_, _, _, Lib.run_convert_string_bytes w t1 t2 e s h1 g1 g2, grownCap_ge w s.size 0 e, grownCap_le_maxLen w s.size 0 e (by unfold maxLen; omega), ⟨?_, ?_, ?_, ?_, ?_⟩, fun _ => ⟨rfl, ?_⟩, fun j x hj => ?_⟩
  · simp [Lib.bytesWorld, World.freeze, World.alloc, World.drew, -World.alloc_eq, -World.drew_eq]
  · simp [Lib.bytesWorld, World.freeze, World.alloc, World.drew, -World.alloc_eq, -World.drew_eq]
  · simp [Lib.bytesWorld, World.freeze, World.alloc, World.drew, -World.alloc_eq, -World.drew_eq]
  · rw [Lib.bytesWorld_size]; omega
  · exact fun k hk => Lib.bytesWorld_at_old w e s k hk
  · show w.heap.size ≤ w.heap.size ∧ w.heap.size < _
    rw [Lib.bytesWorld_size]; omega
  · refine ⟨[.int .u8 x], rfl, fun i u hu => ?_⟩
    have hi : i = 0 := by
      rcases i with _ | i
      · rfl
      · simp at hu
    subst hi
    simp at hu
    subst hu
    have hjl : j < s.size := by have := (List.getElem?_eq_some_iff.1 hj).1; rwa [bsOf_len] at this
    have h3 := Lib.bytesWorld_cell w e s j hjl
    have h4 : s.data.toList.getD j 0 = s.data.toList[j]'(by simpa using hjl) := by
      rw [List.getD_eq_getElem?_getD, List.getElem?_eq_getElem (by simpa using hjl)]; rfl
    rw [h4] at h3
    have h5 : x = ((s.data.toList[j]'(by simpa using hjl)).toNat : Int) := by
      simp only [bsOf, List.getElem?_map] at hj
      rw [List.getElem?_eq_getElem (by simpa using hjl)] at hj
      simpa using hj.symm
    rw [h5]
    have e : j * (kInt .u8).sz + 0 = j := by show j * 1 + 0 = j; omega
    rw [e]
    have : ((⟨w.heap.size, 0, none⟩ : Addr).add j) = ⟨w.heap.size, j, none⟩ := by rw [add_box]; simp
    show World.cell? _ ((⟨w.heap.size, 0, none⟩ : Addr).add j) = _
    rw [this]
    exact h3
theorem v_min {x y : Operand} {kk : IntKind} {a b : Int} {ts : Array TypeId} (hx : evl l x = some (.int kk a)) (hy : evl l y = some (.int kk b)) : Val C ⟨some d, .call { callee := .builtin .min, args := #[x, y], argTypes := ts }, ty, pos, after, g⟩ l M S (.int kk (min a b)) :=
  fun a' w hF _ => by
    have : (Builtin.min2 (.int kk a) (.int kk b)).run C.P w = .ok (.int kk (min a b)) w := by
      simp only [Builtin.min2]
      split <;> simp_all [Int.min_def] <;> omega
    simp [execOp, hF.ev hx, hF.ev hy, resolve, invoke, builtin, Builtin.min_, this, Sem.run_pure, Sem.run_bind]
theorem v_ext {fn' : Func} {gf : Nat} {xs : Array Operand} {ts : Array TypeId} {e : Array Value → Sem Value} {v : Value} (vs : List Value) (hx : evA l xs.toList = some vs) (hf : C.P.funcs[gf]? = some fn') (hn : (fn'.name == "runtime.NumGoroutine") = false) (hb : fn'.body.isNone = true) (h1 : Extern.findNext fn' = none) (h2 : Extern.find fn' = some e)
    (hv : ∀ w, (e vs.toArray).run C.P w = .ok v w) : Val C ⟨some d, .call { callee := .value (.func gf), args := xs, argTypes := ts }, ty, pos, after, g⟩ l M S v :=
  fun a w hF _ => by
    have hx' : xs.map a.eval = vs.toArray := by
      apply Array.ext'
      rw [Array.toList_map, evA_spec hF _ _ hx]
    have h3 := run_callFunc_extern hf hn hb h1 h2 vs.toArray w
    simp [execOp, resolve, Act.eval, Deferred.ofValue, invoke, hx', h3, hv, Sem.run_pure, Sem.run_bind]
theorem x_indexByteS {P : Program} (s : ByteArray) (c : Int) (w : World) : (Extern.BytealgIndexByte.indexByte [Value.string s, Value.int .u8 c].toArray).run P w = .ok (.int .i64 (idxB s c)) w := Lib.run_indexByteString s c w

structure Vw (sz : Nat) (A : Option Addr) (n lo m : Nat) (A' : Option Addr) : Prop where
  le : lo + m ≤ n
  eq : 0 < m → A' = A.map (·.add (lo * sz))
theorem Vw.whole {sz : Nat} {A : Option Addr} {n : Nat} : Vw sz A n 0 n A := ⟨by omega, fun _ => by cases A <;> simp [Addr.add]⟩
theorem Vw.cut {sz : Nat} {A : Option Addr} {n : Nat} {lv hv mv : Int} (h0 : 0 ≤ lv ∧ lv ≤ hv) (h1 : hv ≤ (n : Int)) (hm : hv ≤ mv) : Vw sz A n lv.toNat (hv.toNat - lv.toNat) (if mv.toNat = lv.toNat then A else A.map (·.add (lv.toNat * sz))) := ⟨by omega, fun hp => by rw [if_neg (by omega)]⟩
theorem Vw.prefix {sz : Nat} {A : Option Addr} {n m : Nat} (h : m ≤ n) : Vw sz A n 0 m A := ⟨by omega, fun _ => by cases A <;> simp [Addr.add]⟩
theorem Vw.cel {sz : Nat} {A A' : Option Addr} {n lo m : Nat} (h : Vw sz A n lo m A') (hA : A.isSome = true) (hp : 0 < m) (w : World) (q : Nat) : celA w A' q = celA w A (lo * sz + q) := by
  obtain ⟨a, rfl⟩ := Option.isSome_iff_exists.1 hA
  rw [h.eq hp]
  simp [celA, add_add']
theorem v_idxV {α : Type} {z T e sz : Nat} {x y : Operand} {A A' : Option Addr} {n c n' c' lo : Nat} {xs : List α} {kk : IntKind} {j : Int} (hT : slE C.P T = some (e, sz)) (hx : evl l x = some (.slice A' n' c')) (hy : evl l y = some (.int kk j)) (h : Ow z A n c xs) (hv : Vw sz A n lo n' A')
 (hj : 0 ≤ j ∧ j < (n' : Int)) : Val C ⟨some d, .indexAddr T x y, ty, pos, after, g⟩ l M S (eA A (((lo : Int) + j).toNat * sz)) := by
  have hle := hv.le
  have hs : A.isSome = true := h.hA (by omega)
  have he := hv.eq (by omega)
  have hs' : A'.isSome = true := by rw [he]; simpa using hs
  have h1 := v_idx (C := C) (l := l) (M := M) (S := S) (ty := ty) (pos := pos) (after := after) (g := g) (d := d) hT hx hy hj hs'
  have e2 : eA A' (j.toNat * sz) = eA A (((lo : Int) + j).toNat * sz) := by
    obtain ⟨a, rfl⟩ := Option.isSome_iff_exists.1 hs
    rw [he]
    have : ((lo : Int) + j).toNat = lo + j.toNat := by omega
    simp [eA, add_add', this, Nat.add_mul]
  rw [← e2]
  exact h1
theorem Src.view {α : Type} {dk : Kd α} {z : Nat} {A A' : Option Addr} {e n c lo m : Nat} {cs : List Value} {xs : List α} {w : World} (j : Nat) (hM : M[j]? = some (.own (.slice A n c) e dk.sz n cs)) (ho : Ow z A n c xs) (hC : Cells dk w F xs cs) (hv : Vw dk.sz A n lo m A') : Src C M S A' m dk.sz ((cs.drop (lo * dk.sz)).take (m * dk.sz)) := by
  have hle := hv.le
  have hle' : (lo + m) * dk.sz ≤ n * dk.sz := Nat.mul_le_mul_right _ hle
  rw [Nat.add_mul] at hle'
  have hlen := hC.len
  rw [← ho.hq] at hlen
  refine ⟨by rw [List.length_take, List.length_drop]; omega, fun u hu => hC.one' u (List.mem_of_mem_drop (List.mem_of_mem_take hu)), fun h0 => by rw [hv.eq h0]; simpa using ho.hA (by omega), fun w hL q u hu => ?_⟩
  rw [List.getElem?_take] at hu
  split at hu
  · rename_i hq
    have hp : 0 < m := Nat.pos_of_ne_zero fun e => by subst e; simp at hq
    rw [List.getElem?_drop] at hu
    rw [hv.cel (ho.hA (by omega)) hp]
    exact own_cell (hL.ok _ (List.mem_iff_getElem?.2 ⟨j, hM⟩)) hu
  · cases hu
theorem Cells.over {α : Type} {dk : Kd α} {w : World} {xs ys : List α} {cs ds : List Value} {lo : Nat} (h : Cells dk w F xs cs) (h2 : Cells dk w F ys ds) (hl : lo + ys.length ≤ xs.length) : Cells dk w F (xs.take lo ++ (ys ++ xs.drop (lo + ys.length))) (setsL cs (lo * dk.sz) ds) := by
  have hle : (lo + ys.length) * dk.sz ≤ xs.length * dk.sz := Nat.mul_le_mul_right _ hl
  rw [Nat.add_mul] at hle
  rw [setsL_eq _ _ _ (by rw [h.len, h2.len]; exact hle), List.append_assoc, h2.len, ← Nat.add_mul]
  exact (h.take lo).app (h2.app (h.drop _))
theorem fm_over {α : Type} {sz : Nat} {enc : α → List Value} (hl : ∀ x, (enc x).length = sz) {xs ys : List α} {lo : Nat} (h : lo + ys.length ≤ xs.length) : setsL (xs.flatMap enc) (lo * sz) (ys.flatMap enc) = (xs.take lo ++ (ys ++ xs.drop (lo + ys.length))).flatMap enc := by
  have hle : (lo + ys.length) * sz ≤ xs.length * sz := Nat.mul_le_mul_right _ h
  rw [Nat.add_mul] at hle
  rw [setsL_eq _ _ _ (by rw [fm_len hl, fm_len hl]; exact hle), List.append_assoc, fm_len hl, ← Nat.add_mul, List.flatMap_append, List.flatMap_append, fm_take hl, fm_drop hl]
theorem run_copy {P : Program} {w : World} {T T2 ty e sz : Nat} {A A' B : Option Addr} {n c n' c' lo m c2 : Nat} {cells news : List Value} {α : Type} {z : Nat} {xs : List α} (hT : slE P T = some (e, sz)) (hown : Orow w e sz (.slice A n c) n cells) (ho : Ow z A n c xs) (hv : Vw sz A n lo n' A') (hl : news.length = m * sz)
    (hB : 0 < m → B.isSome = true) (hnews : ∀ q u, news[q]? = some u → celA w B q = some u) (h1 : ∀ u ∈ news, u.oneCell' = true) (hsz : 0 < sz) :
    ∃ w', (Builtin.copy_ #[T, T2] ty #[.slice A' n' c', .slice B m c2]).run P w = .ok (.int .i64 ((min m n' : Nat) : Int)) w' ∧ Orow w' e sz (.slice A n c) n (setsL cells (lo * sz) (news.take (min m n' * sz))) ∧ Chg (Ent.own (.slice A n c) e sz n cells).blk w w' := by
  obtain ⟨t1, inf, t2, t3⟩ := slE_spec hT
  have hle := hv.le
  rcases Nat.eq_zero_or_pos (min m n') with h0 | h0
  · refine ⟨w, ?_, by rw [h0]; simpa [setsL] using hown, Chg.refl _ w⟩
    have hf : (Builtin.firstCells sz 0 (.slice B m c2)).run P w = .ok #[] w := by
      cases B <;> simp [Builtin.firstCells, loadCells, loadCellsFrom]
    have e0 : Nat.min m n' = 0 := h0
    cases A' <;> simp [Builtin.copy_, run_underlying t1, Builtin.lenOf, sizeOf, typeInfo, t2, t3, e0, hf, storeCells, goInt, h0]
  · have hm : 0 < m := by omega
    have hn' : 0 < n' := by omega
    obtain ⟨gb, rfl⟩ := hown.addr (by omega)
    obtain ⟨b, rfl⟩ := Option.isSome_iff_exists.1 (hB hm)
    have hA' := hv.eq hn'
    subst hA'
    have hk : min m n' * sz ≤ m * sz := Nat.mul_le_mul_right _ (Nat.min_le_left _ _)
    have htl : (news.take (min m n' * sz)).length = min m n' * sz := by rw [List.length_take, hl]; omega
    have hf : (Builtin.firstCells sz (min m n') (.slice (some b) m c2)).run P w = .ok (news.take (min m n' * sz)).toArray w := by
      have hx := run_loadCells_list (P := P) (w := w) b (news.take (min m n' * sz)) (fun i u hu => by
        rw [List.getElem?_take] at hu
        split at hu
        · exact hnews i u hu
        · cases hu)
      rw [htl] at hx
      simpa [Builtin.firstCells] using hx
    have hlo : (lo + n') * sz ≤ n * sz := Nat.mul_le_mul_right _ hle
    have hmn : min m n' * sz ≤ n' * sz := Nat.mul_le_mul_right _ (Nat.min_le_right _ _)
    rw [Nat.add_mul] at hlo
    obtain ⟨w', h2, h3, g1, g2, g3, g4, g5⟩ := hown.stores (P := P) (o := lo * sz) (vs := news.take (min m n' * sz)) (by rw [htl, hown.1]; omega) (fun u hu => h1 u (List.mem_of_mem_take hu))
    refine ⟨w', ?_, h3, ⟨⟨g1, g2, g3, Nat.le_of_eq g4.symm⟩, fun b _ hb => g5 b (fun e => hb (by simp [Ent.blk, Value.ownBlock, e]))⟩⟩
    have e0 : Nat.min m n' = min m n' := rfl
    simp only [add_box, Nat.zero_add, Option.map_some]
    simp [Builtin.copy_, run_underlying t1, Builtin.lenOf, sizeOf, typeInfo, t2, t3, e0, hf, h2, goInt]
theorem s_copy {α : Type} {z : Nat} {xs : List α} {T T2 e sz : Nat} {x y : Operand} {A A' B : Option Addr} {n c n' c' lo m c2 : Nat} {cells news cells' : List Value} (j : Nat) (hT : slE C.P T = some (e, sz)) (hsz : Nat.ble 1 sz = true) (hx : evl l x = some (.slice A' n' c')) (hy : evl l y = some (.slice B m c2)) (hM : M[j]? = some (.own (.slice A n c) e sz n cells)) (ho : Ow z A n c xs) (hv : Vw sz A n lo n' A')
    (hs : Src C M S B m sz news) (hc : setsL cells (lo * sz) (news.take (min m n' * sz)) = cells') (hd : Nat.ble (d + 1) C.n = true) (h : Nx ((d, .int .i64 ((min m n' : Nat) : Int)) :: l) (M.set j (.own (.slice A n c) e sz n cells')) S) : Stp C ⟨some d, .call { callee := .builtin .copy, args := #[x, y], argTypes := #[T, T2] }, ty, pos, after, g⟩ l M S Nx :=
  s_run hd fun a w hF hL => by
    subst hc
    have hown : Orow w e sz (.slice A n c) n cells := hL.ok _ (List.mem_iff_getElem?.2 ⟨j, hM⟩)
    obtain ⟨w', h2, h3, h4⟩ := run_copy (P := C.P) (T2 := T2) (ty := ty) (c' := c') (c2 := c2) hT hown ho hv hs.len hs.at_ (fun q u hu => hs.cell w hL q u hu) hs.one (Nat.le_of_ble_eq_true hsz)
    refine ⟨_, w', _, _, ?_, hL.upd (e' := .own (.slice A n c) e sz n (setsL cells (lo * sz) (news.take (min m n' * sz)))) hM h4 h3 (fun b hb => .inl hb), h⟩
    simp [execOp, resolve, invoke, builtin, hF.ev hx, hF.ev hy, h2, Sem.run_pure, Sem.run_bind]
theorem s_copyN {α : Type} {z : Nat} {xs : List α} {T T2 e sz : Nat} {x y : Operand} {A A' B : Option Addr} {n c n' c' lo m c2 : Nat} {cells news cells' : List Value} (j : Nat) (hT : slE C.P T = some (e, sz)) (hsz : Nat.ble 1 sz = true) (hx : evl l x = some (.slice A' n' c')) (hy : evl l y = some (.slice B m c2)) (hM : M[j]? = some (.own (.slice A n c) e sz n cells)) (ho : Ow z A n c xs) (hv : Vw sz A n lo n' A')
    (hs : Src C M S B m sz news) (hc : setsL cells (lo * sz) (news.take (min m n' * sz)) = cells') (hgd : g = none) (h : Nx l (M.set j (.own (.slice A n c) e sz n cells')) S) : Stp C ⟨none, .call { callee := .builtin .copy, args := #[x, y], argTypes := #[T, T2] }, ty, pos, after, g⟩ l M S Nx := by
  intro a w hF hL Q
  subst hc
  have hown : Orow w e sz (.slice A n c) n cells := hL.ok _ (List.mem_iff_getElem?.2 ⟨j, hM⟩)
  obtain ⟨w', h2, h3, h4⟩ := run_copy (P := C.P) (T2 := T2) (ty := ty) (c' := c') (c2 := c2) hT hown ho hv hs.len hs.at_ (fun q u hu => hs.cell w hL q u hu) hs.one (Nat.le_of_ble_eq_true hsz)
  unfold Oper.wp
  simp only [execOp, resolve, invoke, builtin, hF.ev hx, hF.ev hy, h2, Sem.run_pure, Sem.run_bind, Result.andThen_ok, List.map_toArray, List.map_cons, List.map_nil]
  exact ⟨_, _, _, hF, hL.upd (e' := .own (.slice A n c) e sz n (setsL cells (lo * sz) (news.take (min m n' * sz)))) hM h4 h3 (fun b hb => .inl hb), h⟩
end ops
end Go.Proofs.Ytbejkaeidnajkaa.B
