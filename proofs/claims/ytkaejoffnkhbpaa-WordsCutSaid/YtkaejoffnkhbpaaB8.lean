/- Lemmas of my own on the machine: bytes and texts, functions of the runtime. No condition. -/
import Derived.Test.YtkaejoffnkhbpaaB7
import Derived.Laws.Externs
import Derived.Lib.ConvBytes
set_option linter.unusedVariables false
set_option linter.unusedSimpArgs false
namespace Go.Proofs.Ytkaejoffnkhbpaa.B
open Go.RowKit
theorem ofBs_snoc (xs : List Int) (x : Int) : ofBs (xs ++ [x]) = (ofBs xs).push (UInt8.ofNat x.toNat) := by
  simp [ofBs, ByteArray.push]
theorem run_pushes {P : Program} {w : World} (f : Value → ByteArray → Sem (ForInStep ByteArray)) (hf : ∀ n s, f (.int .u8 n) s = pure (.yield (s.push (UInt8.ofNat n.toNat)))) : ∀ (ys xs : List Int), (forIn (ys.map (Value.int .u8)) (ofBs xs) f : Sem ByteArray).run P w = .ok (ofBs (xs ++ ys)) w
  | [], xs => by simp
  | y :: ys, xs => by
    have ih := run_pushes (P := P) (w := w) f hf ys (xs ++ [y])
    rw [ofBs_snoc] at ih
    simp only [List.map_cons, List.forIn_cons, hf, Sem.run_bind, Sem.run_pure, Result.andThen_ok]
    rw [ih]
    simp
theorem fm_int (k : IntKind) (xs : List Int) : xs.flatMap (eI k) = xs.map (Value.int k) := by
  induction xs with
  | nil => rfl
  | cons x xs ih => rw [List.flatMap_cons, ih]; rfl
theorem run_b2s {P : Program} {w : World} {A : Option Addr} {n c : Nat} {xs : List Int} (hn : n = xs.length) (hA : 0 < n → A.isSome = true) (hc : ∀ j u, (xs.flatMap (eI .u8))[j]? = some u → celA w A j = some u) : (Conv.bytesToString (.slice A n c)).run P w = .ok (.string (ofBs xs)) w := by
  subst hn
  cases A with
  | none =>
    have : xs = [] := List.eq_nil_of_length_eq_zero (Nat.eq_zero_of_not_pos fun h => by simpa using hA h)
    subst this
    simp [Conv.bytesToString, ofBs]
    rfl
  | some a =>
    have h1 := run_loadCells_list (P := P) (w := w) a (xs.flatMap (eI .u8)) (fun j v hj => hc j v hj)
    rw [show (xs.flatMap (eI .u8)).length = xs.length by rw [fm_int]; simp] at h1
    simp only [Conv.bytesToString, Sem.run_bind, h1, Result.andThen_ok, ← Array.forIn_toList]
    rw [fm_int]
    have h0 : ofBs [] = ByteArray.empty := rfl
    rw [← h0]
    rw [run_pushes (P := P) (w := w) _ (fun n s => rfl) xs []]
    simp
def u8K (P : Program) (T : TypeId) : Bool := match P.underlying T with
  | some (.slice e) => match P.underlying e with
    | some (.int .u8) => true
    | _ => false
  | _ => false
theorem u8K_spec {P : Program} {T : TypeId} (h : u8K P T = true) : ∃ e, P.underlying T = some (.slice e) ∧ P.underlying e = some (.int .u8) := by
  unfold u8K at h
  split at h
  · rename_i e he
    split at h
    · rename_i h2; exact ⟨e, he, h2⟩
    · cases h
  · cases h
theorem run_conv_b2s {P : Program} {w : World} {t1 t2 : TypeId} (h1 : u8K P t1 = true) (h2 : P.underlying t2 = some .string) {A : Option Addr} {n c : Nat} {s : ByteArray} (h : (Conv.bytesToString (.slice A n c)).run P w = .ok (.string s) w) : (convert t1 t2 (.slice A n c)).run P w = .ok (.string s) w := by
  obtain ⟨e, g1, g2⟩ := u8K_spec h1
  simp [convert, run_underlying g1, run_underlying g2, run_underlying h2, h]
section ops
variable {C : Cx} {ops : Array Oper} {k : List Item} {l l' : Fm} {M M' : List Ent} {S S' : List Snap} {ty : TypeId} {pos : String} {after : Ed} {g : Gu} {d : Nat} {Nx : Fm → List Ent → List Snap → Prop}
theorem v_b2sN {t1 t2 : TypeId} {x : Operand} (h1 : u8K C.P t1 = true) (h2 : C.P.underlying t2 = some .string) (hx : evl l x = some (.slice none 0 0)) : Val C ⟨some d, .convert t1 t2 x, ty, pos, after, g⟩ l M S (.string ⟨#[]⟩) :=
  fun a' w hF _ => by
    have : (convert t1 t2 (.slice none 0 0)).run C.P w = .ok (.string (ofBs [])) w := run_conv_b2s (w := w) h1 h2 (run_b2s (P := C.P) (w := w) (A := none) (c := 0) (xs := []) rfl (fun h => absurd h (Nat.lt_irrefl 0)) (fun j u h => by simp at h))
    simp [execOp, hF.ev hx, this, Sem.run_pure, Sem.run_bind, ofBs]
theorem v_b2sR {t1 t2 : TypeId} {x : Operand} {A : Option Addr} {n c : Nat} {xs : List Int} (s : Snap) (h1 : u8K C.P t1 = true) (h2 : C.P.underlying t2 = some .string) (hx : evl l x = some (.slice A n c)) (hR : RowOf (kInt .u8) s.w s.av A xs) (hs : s ∈ S) (hsh : s.sh = true) (hq : n = xs.length) : Val C ⟨some d, .convert t1 t2 x, ty, pos, after, g⟩ l M S (.string (ofBs xs)) :=
  fun a' w hF hL => by
    have hr := hL.row hs hsh hR
    have := run_conv_b2s (w := w) h1 h2 (run_b2s (P := C.P) (w := w) (c := c) hq (fun h => (hr.1 (hq ▸ h)).1) (fun j u hj => by
      rw [fm_int] at hj
      simp at hj
      obtain ⟨x, hx, rfl⟩ := hj
      obtain ⟨cs, h3, h4⟩ := hr.2 j x hx
      have h3' : cs = [.int .u8 x] := h3
      subst h3'
      have := h4 0 _ rfl
      have e : j * (kInt .u8).sz + 0 = j := by show j * 1 + 0 = j; omega
      rwa [e] at this))
    simp [execOp, hF.ev hx, this, Sem.run_pure, Sem.run_bind]
theorem v_b2sO {t1 t2 e : TypeId} {x : Operand} {A : Option Addr} {n c : Nat} {xs : List Int} (j : Nat) (h1 : u8K C.P t1 = true) (h2 : C.P.underlying t2 = some .string) (hx : evl l x = some (.slice A n c)) (hM : M[j]? = some (.own (.slice A n c) e 1 n (xs.flatMap (eI .u8)))) (hq : n = xs.length) : Val C ⟨some d, .convert t1 t2 x, ty, pos, after, g⟩ l M S (.string (ofBs xs)) :=
  fun a' w hF hL => by
    have hown : w.ownsRow 0 e 1 (.slice A n c) n (xs.flatMap (eI .u8)) := hL.ok _ (List.mem_iff_getElem?.2 ⟨j, hM⟩)
    have := run_conv_b2s (w := w) h1 h2 (run_b2s (P := C.P) (w := w) (c := c) hq (own_form' hown) (fun q u hu => own_cell hown hu))
    simp [execOp, hF.ev hx, this, Sem.run_pure, Sem.run_bind]
theorem run_s2b {P : Program} {w : World} {t1 t2 : TypeId} (h1 : P.underlying t1 = some .string) (h2 : u8K P t2 = true) (s : ByteArray) (hs : s.size ≤ 4294967296) :
    ∃ A c w', (convert t1 t2 (.string s)).run P w = .ok (.slice A s.size c) w' ∧ s.size ≤ c ∧ c ≤ maxLen ∧ Below w.heap.size w w' ∧ RowOf (kInt .u8) w' (fun b => w.heap.size ≤ b ∧ b < w'.heap.size) A (bsOf s) := by
  obtain ⟨e, g1, g2⟩ := u8K_spec h2
  refine ⟨_, _, _, Lib.run_convert_string_bytes w t1 t2 e s h1 g1 g2, grownCap_ge w s.size 0 e, grownCap_le_maxLen w s.size 0 e (by unfold maxLen; omega), ⟨?_, ?_, ?_, ?_, ?_⟩, fun _ => ⟨rfl, ?_⟩, fun j x hj => ?_⟩
  · simp [Lib.bytesWorld, World.freeze, World.alloc, World.drew, -World.alloc_eq, -World.drew_eq]
  · simp [Lib.bytesWorld, World.freeze, World.alloc, World.drew, -World.alloc_eq, -World.drew_eq]
  · simp [Lib.bytesWorld, World.freeze, World.alloc, World.drew, -World.alloc_eq, -World.drew_eq]
  · rw [Lib.bytesWorld_size]; omega
  · exact fun k hk => Lib.bytesWorld_at_old w e s k hk
  · show w.heap.size ≤ w.heap.size ∧ w.heap.size < _
    rw [Lib.bytesWorld_size]; omega
  · refine ⟨[.int .u8 x], rfl, fun i u hu => ?_⟩
    have hi : i = 0 := by
      rcases i with _ | i
      · rfl
      · simp at hu
    subst hi
    simp at hu
    subst hu
    have hjl : j < s.size := by have := (List.getElem?_eq_some_iff.1 hj).1; rwa [bsOf_len] at this
    have h3 := Lib.bytesWorld_cell w e s j hjl
    have h4 : s.data.toList.getD j 0 = s.data.toList[j]'(by simpa using hjl) := by
      rw [List.getD_eq_getElem?_getD, List.getElem?_eq_getElem (by simpa using hjl)]; rfl
    rw [h4] at h3
    have h5 : x = ((s.data.toList[j]'(by simpa using hjl)).toNat : Int) := by
      simp only [bsOf, List.getElem?_map] at hj
      rw [List.getElem?_eq_getElem (by simpa using hjl)] at hj
      simpa using hj.symm
    rw [h5]
    have e : j * (kInt .u8).sz + 0 = j := by show j * 1 + 0 = j; omega
    rw [e]
    have : ((⟨w.heap.size, 0, none⟩ : Addr).add j) = ⟨w.heap.size, j, none⟩ := by rw [add_box]; simp
    show World.cell? _ ((⟨w.heap.size, 0, none⟩ : Addr).add j) = _
    rw [this]
    exact h3
/-- []byte(s): new bytes, from here on only read. -/
theorem s_s2b {t1 t2 : TypeId} {x : Operand} {s : ByteArray} {F : Nat → Prop} (h1 : C.P.underlying t1 = some .string) (h2 : u8K C.P t2 = true) (hx : evl l x = some (.string s)) (hs : s.size ≤ 4294967296) (hd : Nat.ble (d + 1) C.n = true)
    (h : ∀ A c w' bs, s.size ≤ c → c ≤ maxLen → RowOf (kInt .u8) (Sm C.w0.heap.size F w' bs).w (Sm C.w0.heap.size F w' bs).av A (bsOf s) → Nx ((d, .slice A s.size c) :: l) M (Sm C.w0.heap.size F w' bs :: S)) : Stp C ⟨some d, .convert t1 t2 x, ty, pos, after, g⟩ l M S Nx :=
  s_run hd fun a w hF hL => by
    obtain ⟨A, c, w', hr, hn, hm, hb, hR⟩ := run_s2b (w := w) h1 h2 s hs
    refine ⟨_, w', _, _, ?_, hL.back hb F, h A c w' _ hn hm (hR.mono fun b hb2 => ⟨⟨hb2.2, fun o ho e1 => ?_, .inl (Nat.le_trans hL.env.size hb2.1)⟩, rfl⟩)⟩
    · simp [execOp, hF.ev hx, hr, Sem.run_pure, Sem.run_bind]
    · obtain ⟨e, he, rfl⟩ := List.mem_map.1 ho
      have := Ent.lt (hL.ok e he) e1
      omega
theorem v_min {x y : Operand} {kk : IntKind} {a b : Int} {ts : Array TypeId} (hx : evl l x = some (.int kk a)) (hy : evl l y = some (.int kk b)) : Val C ⟨some d, .call { callee := .builtin .min, args := #[x, y], argTypes := ts }, ty, pos, after, g⟩ l M S (.int kk (min a b)) :=
  fun a' w hF _ => by
    have : (Builtin.min2 (.int kk a) (.int kk b)).run C.P w = .ok (.int kk (min a b)) w := by
      simp only [Builtin.min2]
      split <;> simp_all [Int.min_def] <;> omega
    simp [execOp, hF.ev hx, hF.ev hy, resolve, invoke, builtin, Builtin.min_, this, Sem.run_pure, Sem.run_bind]
/-- A function of the runtime. -/
theorem v_ext {fn' : Func} {gf : Nat} {xs : Array Operand} {ts : Array TypeId} {e : Array Value → Sem Value} {v : Value} (vs : List Value) (hx : evA l xs.toList = some vs) (hf : C.P.funcs[gf]? = some fn') (hn : (fn'.name == "runtime.NumGoroutine") = false) (hb : fn'.body.isNone = true) (h1 : Extern.findNext fn' = none) (h2 : Extern.find fn' = some e)
    (hv : ∀ w, (e vs.toArray).run C.P w = .ok v w) : Val C ⟨some d, .call { callee := .value (.func gf), args := xs, argTypes := ts }, ty, pos, after, g⟩ l M S v :=
  fun a w hF _ => by
    have hx' : xs.map a.eval = vs.toArray := by
      apply Array.ext'
      rw [Array.toList_map, evA_spec hF _ _ hx]
    have h3 := run_callFunc_extern hf hn hb h1 h2 vs.toArray w
    simp [execOp, resolve, Act.eval, Deferred.ofValue, invoke, hx', h3, hv, Sem.run_pure, Sem.run_bind]
theorem x_indexByteS {P : Program} (s : ByteArray) (c : Int) (w : World) : (Extern.BytealgIndexByte.indexByte [Value.string s, Value.int .u8 c].toArray).run P w = .ok (.int .i64 (idxB s c)) w := Lib.run_indexByteString s c w
end ops
end Go.Proofs.Ytkaejoffnkhbpaa.B
