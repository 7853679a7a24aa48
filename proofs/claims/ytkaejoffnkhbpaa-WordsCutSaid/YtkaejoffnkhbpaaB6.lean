/- Lemmas of my own on the machine: what my printed proofs use beside the rest. No condition. -/
import Derived.Test.YtkaejoffnkhbpaaB5
set_option linter.unusedVariables false
set_option linter.unusedSimpArgs false
namespace Go.Proofs.Ytkaejoffnkhbpaa.B
open Go.RowKit
theorem if_pos' {c A B : Prop} [Decidable c] (hc : c) (h : if c then A else B) : A := by rwa [if_pos hc] at h
theorem if_neg' {c A B : Prop} [Decidable c] (hc : ¬ c) (h : if c then A else B) : B := by rwa [if_neg hc] at h
theorem eqi {a b : Int} (h : a = b) : (a == b) = true := beq_iff_eq.2 h
theorem nei {a b : Int} (h : ¬ a = b) : (a == b) = false := beq_eq_false_iff_ne.2 h
theorem eqib {a b : Int} (h : a = b) : (a != b) = false := by simp [bne, h]
theorem neib {a b : Int} (h : ¬ a = b) : (a != b) = true := by simp [bne, h]
theorem nt {b : Bool} (h : b = false) : (!b) = true := by rw [h]; rfl
theorem nf {b : Bool} (h : b = true) : (!b) = false := by rw [h]; rfl
theorem bf {b : Bool} (h : ¬ b = true) : b = false := Bool.eq_false_iff.2 h
theorem seq_t {x y : ByteArray} (h : x = y) : seq x y = true := by simp [seq, h]
theorem toList_loop (bs : ByteArray) : ∀ (n i : Nat) (r : List UInt8), bs.size - i = n → ByteArray.toList.loop bs i r = r.reverse ++ bs.data.toList.drop i
  | 0, i, r, h => by
    rw [ByteArray.toList.loop, if_neg (by omega), List.drop_eq_nil_of_le (by have : bs.data.toList.length = bs.size := (by simp); omega)]
    simp
  | n + 1, i, r, h => by
    have hi : i < bs.size := by omega
    have hl : i < bs.data.toList.length := by have : bs.data.toList.length = bs.size := by simp
                                              omega
    rw [ByteArray.toList.loop, if_pos hi, toList_loop bs n (i + 1) _ (by omega), List.drop_eq_getElem_cons hl]
    have : bs.get! i = bs.data.toList[i] := by
      cases bs with
      | mk d =>
        have hd : i < d.size := by simpa using hl
        show d[i]! = _
        simp [getElem!_pos, hd]
    simp [this]
theorem toList_data (bs : ByteArray) : bs.toList = bs.data.toList := by
  rw [ByteArray.toList, toList_loop bs _ 0 [] rfl]; simp
theorem seq_f {x y : ByteArray} (h : ¬ x = y) : seq x y = false := by
  refine Bool.eq_false_iff.2 fun e => h ?_
  have e1 : x.toList = y.toList := by simpa [seq] using e
  rw [toList_data, toList_data] at e1
  cases x; cases y
  simp at e1
  simp [e1]
abbrev eI (k : IntKind) (x : Int) : List Value := [.int k x]
abbrev eB (x : Bool) : List Value := [.bool x]
abbrev eS (x : ByteArray) : List Value := [.string x]
theorem hlI (k : IntKind) : ∀ x, (eI k x).length = 1 := fun _ => rfl
theorem hlB : ∀ x, (eB x).length = 1 := fun _ => rfl
theorem hlS : ∀ x, (eS x).length = 1 := fun _ => rfl
theorem hq_own {w : World} {A : Option Addr} {e sz n m c : Nat} {cells : List Value} (hq : n = m) (h : w.ownsRow 0 e sz (.slice A n c) n cells) : w.ownsRow 0 e sz (.slice A m c) m cells := hq ▸ h
theorem own_form' {w : World} {A : Option Addr} {e sz n c : Nat} {cells : List Value} (h : w.ownsRow 0 e sz (.slice A n c) n cells) : 0 < n → A.isSome = true := fun hp => by
  obtain ⟨gb, rfl⟩ := own_addr h hp
  rfl
theorem hq_le {n m c : Nat} (hq : n = m) (h : n ≤ c) : m ≤ c := hq ▸ h
theorem ob_len {A : Option Addr} {n m c b : Nat} (h : (Value.slice A m c).ownBlock = some b) : (Value.slice A n c).ownBlock = some b := by cases A <;> exact h
section ops
variable {C : Cx} {ops : Array Oper} {k : List Item} {l l' : Fm} {M M' : List Ent} {S S' : List Snap} {ty : TypeId} {pos : String} {after : Ed} {g : Gu} {d : Nat} {Nx : Fm → List Ent → List Snap → Prop}
/-- Behind a call: what it handed back stands under a snapshot's name. -/
theorem Loc.backB {w0 w w' : World} (hL : Loc w0 w M S) (hb : Below w.heap.size w w') {F : Nat → Prop} (hS : okS w0.heap.size F S) : ∃ bs, Loc w0 w' M (Sm w0.heap.size F w' bs :: S) ∧ ∀ b, Nw w w' (B.Fs S) b → (Sm w0.heap.size F w' bs).av b ∧ w'.heap[b]? = w'.heap[b]? :=
  ⟨M.map Ent.blk, hL.back hb F, fun b h => ⟨hL.res hS h, rfl⟩⟩
theorem Loc.sameB {w0 w w' : World} (hL : Loc w0 w M S) (hb : Below w.heap.size w w') : Loc w0 w' M S := hL.same (Chg.of_below hb none)
/-- Behind a call that made one new row. -/
theorem Loc.ownB {w0 w w' : World} (hL : Loc w0 w M S) (hb : Below w.heap.size w w') {v : Value} {e sz n : Nat} {cells : List Value} (h : w'.ownsRow 0 e sz v n cells) (hn : ∀ b, v.ownBlock = some b → w.heap.size ≤ b) : Loc w0 w' (.own v e sz n cells :: M) S :=
  hL.add (e := .own v e sz n cells) (Chg.of_below hb none) h hn
/-- A row of the call's own, from here on only read. -/
theorem Loc.freeze {α : Type} {sz : Nat} {enc : α → List Value} {hl : ∀ x, (enc x).length = sz} {h1 : ∀ x, ∀ u ∈ enc x, u.oneCell' = true} {w0 w : World} {A : Option Addr} {e c n : Nat} {cells : List Value} {xs : List α} {F : Nat → Prop} (hL : Loc w0 w M S) {bs0 : List (Option Nat)} (hs : St w0 bs0 ∈ S) (hbs : ∀ e ∈ M, ∀ o ∈ bs0, far o e.blk) (j : Nat) (hM : M[j]? = some (.own (.slice A n c) e sz n cells)) (hn : n = xs.length) (hc : cells = xs.flatMap enc) :
    ∃ w' bs, w' = w ∧ Loc w0 w (M.eraseIdx j) (Sm w0.heap.size F w' bs :: S) ∧ RowOf (Kd.flat sz enc hl h1) (Sm w0.heap.size F w' bs).w (Sm w0.heap.size F w' bs).av A xs := by
  subst hn
  subst hc
  have hsub : (M.eraseIdx j).Sublist M := List.eraseIdx_sublist M j
  have hown : w.ownsRow 0 e sz (.slice A xs.length c) xs.length (xs.flatMap enc) := hL.ok _ (List.mem_iff_getElem?.2 ⟨j, hM⟩)
  refine ⟨w, (M.eraseIdx j).map Ent.blk, rfl, (hL.drop hsub (fun s h => h)).mark _, own_row hown fun b hb => ?_⟩
  have hblk : (Ent.own (.slice A xs.length c) e sz xs.length (xs.flatMap enc)).blk = some b := hb
  refine ⟨Ent.lt (hL.ok _ (List.mem_iff_getElem?.2 ⟨j, hM⟩)) hblk, fun o ho e1 => ?_, .inl ?_⟩
  · obtain ⟨x, hx, hxo⟩ := List.mem_map.1 ho
    obtain ⟨i, hi⟩ := List.mem_iff_getElem?.1 hx
    rw [List.getElem?_eraseIdx] at hi
    have hij : ∃ i', i' ≠ j ∧ M[i']? = some x := by
      split at hi
      · exact ⟨i, by omega, hi⟩
      · exact ⟨i + 1, by omega, hi⟩
    obtain ⟨i', h1', h2'⟩ := hij
    have := pair_get hL.apart h1' h2' hM
    rw [hblk, hxo, e1] at this
    rcases this with h | h
    · cases h
    · exact h rfl
  · rcases Nat.lt_or_ge b w0.heap.size with h | h
    · have h5 := (hL.snap _ hs).2 b ⟨h, fun o ho e1 => by
        have := hbs _ (List.mem_iff_getElem?.2 ⟨j, hM⟩) o ho
        rw [e1, hblk] at this
        rcases this with h | h
        · cases h
        · exact h rfl, trivial⟩
      exact absurd hblk (h5.2 _ (List.mem_iff_getElem?.2 ⟨j, hM⟩))
    · exact h
theorem noB {M : List Ent} : ∀ e ∈ M, ∀ o ∈ ([] : List (Option Nat)), far o e.blk := fun _ _ _ h => by cases h
theorem g_freeze {α : Type} {sz : Nat} {enc : α → List Value} {hl : ∀ x, (enc x).length = sz} {h1 : ∀ x, ∀ u ∈ enc x, u.oneCell' = true} {A : Option Addr} {e c n : Nat} {cells : List Value} {xs : List α} {F : Nat → Prop} (i j : Nat) (hM : M[j]? = some (.own (.slice A n c) e sz n cells)) (hn : n = xs.length) (hc : cells = xs.flatMap enc) (hs : S[i]? = some (St C.w0 []))
    (h : ∀ w' bs, RowOf (Kd.flat sz enc hl h1) (Sm C.w0.heap.size F w' bs).w (Sm C.w0.heap.size F w' bs).av A xs → G C k l (M.eraseIdx j) (Sm C.w0.heap.size F w' bs :: S)) : G C k l M S := fun a w hF hL => by
  obtain ⟨w', bs, rfl, hL2, hR⟩ := hL.freeze (hl := hl) (h1 := h1) (F := F) (me i hs) noB j hM hn hc
  exact h w' bs hR a w' hF hL2
theorem w_freeze {α : Type} {sz : Nat} {enc : α → List Value} {hl : ∀ x, (enc x).length = sz} {h1 : ∀ x, ∀ u ∈ enc x, u.oneCell' = true} {A : Option Addr} {e c n : Nat} {cells : List Value} {xs : List α} {F : Nat → Prop} {q : Nat} (i j : Nat) (hM : M[j]? = some (.own (.slice A n c) e sz n cells)) (hn : n = xs.length) (hc : cells = xs.flatMap enc) (hs : S[i]? = some (St C.w0 []))
    (h : ∀ w' bs, RowOf (Kd.flat sz enc hl h1) (Sm C.w0.heap.size F w' bs).w (Sm C.w0.heap.size F w' bs).av A xs → WL C ops q k l (M.eraseIdx j) (Sm C.w0.heap.size F w' bs :: S)) : WL C ops q k l M S := fun a w hF hL => by
  obtain ⟨w', bs, rfl, hL2, hR⟩ := hL.freeze (hl := hl) (h1 := h1) (F := F) (me i hs) noB j hM hn hc
  exact h w' bs hR a w' hF hL2
/-- A row of the call's own as one that is read, where the callee hands nothing back. -/
theorem Loc.arg {α : Type} {sz : Nat} {enc : α → List Value} {hl : ∀ x, (enc x).length = sz} {h1 : ∀ x, ∀ u ∈ enc x, u.oneCell' = true} {w0 w : World} {A : Option Addr} {e c n : Nat} {cells : List Value} {xs : List α} (hL : Loc w0 w M S) (j : Nat) (hM : M[j]? = some (.own (.slice A n c) e sz n cells)) (hn : n = xs.length) (hc : cells = xs.flatMap enc) :
    RowOf (Kd.flat sz enc hl h1) w (fun b => b < w.heap.size) A xs := by
  subst hn
  subst hc
  have hok := hL.ok _ (List.mem_iff_getElem?.2 ⟨j, hM⟩)
  exact own_row hok fun b hb => Ent.lt hok hb
theorem Loc.rowA {α : Type} {w0 w : World} {s : Snap} {dk : Kd α} {A : Option Addr} {xs : List α} (hL : Loc w0 w M S) (hs : s ∈ S) (h : RowOf dk s.w s.av A xs) : RowOf dk w (fun b => b < w.heap.size) A xs :=
  h.mono fun b hb => ⟨Nat.lt_of_lt_of_le hb.1 (hL.snap s hs).1, ((hL.snap s hs).2 b hb).1⟩
theorem idx_of {n m : Nat} {j : Int} (hq : n = m) (hb : 0 ≤ j ∧ j < (m : Int)) : 0 ≤ j ∧ j < (n : Int) := hq ▸ hb
theorem pos_of {n : Nat} {j : Int} (hb : 0 ≤ j ∧ j < (n : Int)) : 0 < n := by omega
theorem mx {n : Nat} (h : Nat.ble n 1000000 = true) : n ≤ maxLen := by have := Nat.le_of_ble_eq_true h; unfold maxLen; omega
theorem v_lenQ {t1 e : TypeId} {x : Operand} {A : Option Addr} {n m c : Nat} (ht : C.P.underlying t1 = some (.slice e)) (hx : evl l x = some (.slice A n c)) (hq : n = m) : Val C ⟨some d, .call { callee := .builtin .len, args := #[x], argTypes := #[t1] }, ty, pos, after, g⟩ l M S (.int .i64 (m : Int)) := hq ▸ v_len ht hx
/-- A store into a row of the call's own, of flat elements. -/
theorem s_stF {α : Type} [Inhabited α] {enc : α → List Value} {T m : Nat} {x y : Operand} {A : Option Addr} {o e sz n c : Nat} {i : Int} {xs ys : List α} {z : α} {vs : List Value} {v : Value} (j : Nat) (hl : ∀ x, (enc x).length = sz) (hT : szK C.P T = some m) (hx : evl l x = some (eA A (i.toNat * sz + o))) (hy : evl l y = some v)
    (hM : M[j]? = some (.own (.slice A n c) e sz n (xs.flatMap enc))) (hv : v.cells.toList = vs) (hm : vs.length = m) (hq : n = xs.length) (hb : 0 ≤ i ∧ i < (xs.length : Int)) (h1 : vs.all Value.oneCell' = true) (hz : setsL (enc (ix xs i)) o vs = enc z) (ho : Nat.ble (o + m) sz = true) (hys : ys = xs.set i.toNat z)
    (h : Nx l (M.set j (.own (.slice A n c) e sz n (ys.flatMap enc))) S) : Stp C ⟨none, .store T x y, ty, pos, after, g⟩ l M S Nx := by
  have ho' := Nat.le_of_ble_eq_true ho
  have hlt : i.toNat < xs.length := by omega
  have hle : (i.toNat + 1) * sz ≤ xs.length * sz := Nat.mul_le_mul_right _ hlt
  rw [Nat.add_mul, Nat.one_mul] at hle
  refine s_stO j hT hx hy hM hv hm (by rw [fm_len hl]; omega) (by omega) h1 rfl ?_
  rw [fm_set hl hb hz (by rw [hm]; exact ho'), ← hys]
  exact h
def fdK (P : Program) (T f : Nat) : Option (Nat × Option Nat) :=
  match P.underlying T with
  | some (.struct fs) => match fs[f]? with
    | some fd => (ldK P fd.type).map fun m => (fd.offset, m)
    | none => none
  | _ => none
theorem fdK_spec {P : Program} {T f off : Nat} {m : Option Nat} (h : fdK P T f = some (off, m)) : ∃ fs fd, P.underlying T = some (.struct fs) ∧ fs[f]? = some fd ∧ ldK P fd.type = some m ∧ fd.offset = off := by
  unfold fdK at h
  split at h
  · rename_i fs hfs
    split at h
    · rename_i fd hfd
      rcases hl : ldK P fd.type with _ | m'
      · rw [hl] at h; cases h
      · rw [hl] at h
        simp at h
        obtain ⟨rfl, rfl⟩ := h
        exact ⟨fs, fd, hfs, hfd, hl, rfl⟩
    · cases h
  · cases h
theorem v_field1 {T f off : Nat} {x : Operand} {cs : Array Value} {v : Value} (hT : fdK C.P T f = some (off, none)) (hx : evl l x = some (.agg cs)) (hv : cs[off]? = some v) : Val C ⟨some d, .field T x f, ty, pos, after, g⟩ l M S v :=
  fun a w hF hL => by
    obtain ⟨fs, fd, h1, h2, h3, h4⟩ := fdK_spec hT
    have hx' := hF.ev hx
    simp [execOp, hx', Instr.field, run_underlying h1, h2, asAgg, part, ldK_one h3, h4, hv, Sem.run_pure, Sem.run_bind]
theorem v_field {T f off m : Nat} {x : Operand} {cs vs : Array Value} (hT : fdK C.P T f = some (off, some m)) (hx : evl l x = some (.agg cs)) (hv : cs.extract off (off + m) = vs) : Val C ⟨some d, .field T x f, ty, pos, after, g⟩ l M S (.agg vs) :=
  fun a w hF hL => by
    obtain ⟨fs, fd, h1, h2, h3, h4⟩ := fdK_spec hT
    obtain ⟨h5, i, h6, h7⟩ := ldK_agg h3
    have hx' := hF.ev hx
    simp [execOp, hx', Instr.field, run_underlying h1, h2, asAgg, part, h5, h4, sizeOf, typeInfo, h6, h7, hv, Sem.run_pure, Sem.run_bind]
theorem g_front (j : Nat) {e : Ent} (hM : M[j]? = some e) (h : G C k l (e :: M.eraseIdx j) S) : G C k l M S := by
  refine g_perm ?_ h
  obtain ⟨h1, rfl⟩ := List.getElem?_eq_some_iff.1 hM
  rw [List.eraseIdx_eq_take_drop_succ]
  conv => lhs; rw [← List.take_append_drop j M, List.drop_eq_getElem_cons h1]
  exact List.perm_middle
end ops
end Go.Proofs.Ytkaejoffnkhbpaa.B
