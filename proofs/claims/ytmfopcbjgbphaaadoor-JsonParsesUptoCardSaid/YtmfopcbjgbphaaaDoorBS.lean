/- Lemmas of my own on the machine: strings.Builder: its own address in a cell, bytes taken out as a text, a text's bytes appended. No condition. -/
import Derived.Test.YtmfopcbjgbphaaaDoorB9
import Derived.Lib.Builder
import Derived.Lib.UnsafeStr
import Derived.Lib.AppendStr
set_option linter.unusedVariables false
set_option linter.unusedSimpArgs false
namespace Go.Proofs.YtmfopcbjgbphaaaDoor.B
open Go.RowKit
section ops
variable {C : Cx} {ops : Array Oper} {k : List Item} {l l' : Fm} {M M' : List Ent} {S S' : List Snap} {ty : TypeId} {pos : String} {after : Ed} {g : Gu} {d : Nat} {Nx : Fm → List Ent → List Snap → Prop}
theorem strCells_eq (s : ByteArray) : Lib.strCells s = (bsOf s).flatMap (eI .u8) := by
 rw [fm_int]
 simp [Lib.strCells, bsOf]
theorem Orow.appendS {w : World} {P : Program} (t u ty e : TypeId) {i : TypeInfo} {v : Value} {n : Nat} {xs : List Value} (ht : P.underlying t = some (.slice e)) (hu : P.underlying u = some .string) (hi : P.info? e = some i) (hz : i.zero = some (.int .u8 0)) (hsize : i.size = 1) (hby : i.bytes = 1)
  (hown : Orow w e 1 v n xs) (s : ByteArray) (h63 : n + s.size ≤ maxLen) (hbytes : (n + s.size) * 1 ≤ 211106232532992) :
  ∃ v' w', (Builtin.append_ #[t, u] ty #[v, .string s]).run P w = .ok v' w' ∧ Orow w' e 1 v' (n + s.size) (xs ++ Lib.strCells s) ∧ w.grownBy w' v.ownBlock ∧ (v'.ownBlock = v.ownBlock ∨ v'.ownBlock = some w.heap.size) := by
 have h63' : n + s.size ≤ 9223372036854775807 := by simp only [maxLen] at h63; omega
 have hxl : xs.length = n := by simpa using hown.1
 have hsl := Lib.strCells_length s
 have hz1 : (Value.int IntKind.u8 0).cells.size = 1 := rfl
 rcases hown.2 with ⟨rfl, rfl⟩ | ⟨g, cap, cur, fz, rfl, hg, hth, hnc, hcm, hcs, htake⟩
 ·have hx : xs = [] := List.eq_nil_of_length_eq_zero (by simpa using hown.1)
  subst hx
  by_cases hm : s.size = 0
  ·have hn : Lib.strCells s = [] := List.eq_nil_of_length_eq_zero (by rw [hsl]; exact hm)
   refine ⟨.slice none 0 0, w, ?_, by rw [hm, hn]; exact Orow.nil w e 1, ⟨rfl, rfl, rfl, Nat.le_refl _, fun _ _ _ => rfl⟩, .inl rfl⟩
   have hf := Lib.run_firstCells_string (P := P) w 1 s
   rw [hm] at hf
   simp [Builtin.append_, run_underlying ht, run_underlying hu, sizeOf, typeInfo, hi, hsize, Builtin.lenOf, hm, hf]
  ·have hr := run_append_nil_string (P := P) w t u ty e i (.int .u8 0) ht hu hi hz s (by omega) (by omega) (by rw [hby]; omega)
   have e1 : (s.data.map fun b => Value.int .u8 b.toNat) = (Lib.strCells s).toArray := by
    apply Array.ext'
    simp [Lib.strCells]
   rw [e1] at hr
   have hge := grownCap_ge w s.size 0 e
   have hcm' : grownCap w s.size 0 e ≤ maxLen := grownCap_le_maxLen w s.size 0 e (by omega)
   simp only [Nat.zero_add, List.nil_append]
   refine ⟨_, _, hr, ⟨by rw [hsl, Nat.mul_one], .inr ⟨w.heap.size, _, _, (0, 0), rfl, heap_alloc_new w.drew _, .inl (Nat.le_refl _), hge, hcm', ?_, ?_⟩⟩, ⟨rfl, rfl, rfl, by simp, fun k hk _ => heap_alloc_old w.drew _ (by simpa using hk)⟩, .inr rfl⟩
   ·simp only [Array.size_append, List.size_toArray, size_zeroCells, hz1, hsl]
    omega
   ·simp only [Array.toList_append]
    rw [show s.size * 1 = (Lib.strCells s).length by rw [hsl, Nat.mul_one]]
    exact List.take_left
 ·have hlen : (xs ++ Lib.strCells s).length = (n + s.size) * 1 := by rw [List.length_append, hxl, hsl, Nat.mul_one]
  by_cases hroom : n + s.size ≤ cap
  ·have hf := Lib.run_firstCells_string (P := P) w 1 s
   have hst := run_storesX P g n e fz (Lib.strCells s) 0 cur w hg (by rw [hcs]; exact hth) (by rw [hsl, hcs]; omega) (Lib.strCells_oneCell s)
   simp only [Nat.add_zero, hsl] at hst
   have hrun : (Builtin.append_ #[t, u] ty #[.slice (some ⟨g, 0, none⟩) n cap, .string s]).run P w = .ok (.slice (some ⟨g, 0, none⟩) (n + s.size) cap) (w.setRow g (cur.toList.take n ++ Lib.strCells s ++ cur.toList.drop (n + s.size)).toArray) := by
    simp [Builtin.append_, run_underlying ht, run_underlying hu, sizeOf, typeInfo, hi, hsize, Builtin.lenOf, hroom, hf, Addr.add_lit, hst]
   refine ⟨_, _, hrun, ⟨hlen, .inr ⟨g, cap, _, fz, rfl, setRow_heap w g cur _ e _ hg, hth, hroom, hcm, ?_, ?_⟩⟩, ⟨rfl, rfl, rfl, by simp, fun k _ hk => setRow_other w g k _ (fun e => hk (by simp [Value.ownBlock, e]))⟩, .inl rfl⟩
   ·simp only [List.size_toArray, List.length_append, List.length_take, List.length_drop, Array.length_toList, hsl]
    omega
   ·rw [Nat.mul_one] at htake
    rw [htake, ← hlen]
    exact List.take_left
  ·have holds : ∀ j u, xs[j]? = some u → w.cell? ((⟨g, 0, none⟩ : Addr).add j) = some u := fun j u hj => by
    rw [add_box, Nat.zero_add, hown.cellAt j (by rw [← hown.1]; exact (List.getElem?_eq_some_iff.1 hj).1)]
    exact hj
   have hr := Lib.run_append_grow_string (P := P) w t u ty e i (.int .u8 0) ht hu hi hz ⟨g, 0, none⟩ n cap xs (by rw [hsize]; simpa using hxl) holds s (by omega) (by omega) (by rw [hby]; exact growslice_fits34 (by omega) hbytes (by omega))
   have hge := grownCap_ge w (n + s.size) cap e
   have hcm' : grownCap w (n + s.size) cap e ≤ maxLen := grownCap_le_maxLen w (n + s.size) cap e h63
   refine ⟨_, _, hr, ⟨hlen, .inr ⟨w.heap.size, _, _, (0, 0), rfl, heap_alloc_new w.drew _, .inl (Nat.le_refl _), hge, hcm', ?_, ?_⟩⟩, ⟨rfl, rfl, rfl, by simp, fun k hk _ => heap_alloc_old w.drew _ (by simpa using hk)⟩, Or.inr rfl⟩
   ·simp only [Array.size_append, List.size_toArray, size_zeroCells, hz1, hxl, hsl]
    omega
   ·simp only [Array.toList_append, List.append_assoc]
    rw [← List.append_assoc, ← hlen]
    exact List.take_left
def asK (P : Program) (t u e : TypeId) : Bool := match P.underlying t, P.underlying u with
 | some (.slice e'), some .string => match P.info? e with
  | some i => Nat.beq e' e && Nat.beq i.size 1 && Nat.beq i.bytes 1 && (match i.zero with | some (.int .u8 z) => decide (z = 0) | _ => false)
  | none => false
 | _, _ => false
theorem asK_spec {P : Program} {t u e : TypeId} (h : asK P t u e = true) : P.underlying t = some (.slice e) ∧ P.underlying u = some .string ∧ ∃ i, P.info? e = some i ∧ i.zero = some (.int .u8 0) ∧ i.size = 1 ∧ i.bytes = 1 := by
 unfold asK at h
 split at h
 ·rename_i e' h1 h2
  split at h
  ·rename_i i hi
   simp only [Bool.and_eq_true] at h
   obtain ⟨⟨⟨g1, g2⟩, g3⟩, g4⟩ := h
   obtain rfl := Nat.eq_of_beq_eq_true g1
   refine ⟨h1, h2, i, hi, ?_, Nat.eq_of_beq_eq_true g2, Nat.eq_of_beq_eq_true g3⟩
   split at g4
   ·rename_i z hz
    rw [hz, of_decide_eq_true g4]
   ·cases g4
  ·cases h
 ·cases h
theorem s_appS {z0 : Nat} {ys zs : List Int} {T U e : TypeId} {x y : Operand} {A : Option Addr} {n c : Nat} {s : ByteArray} (j : Nat) (hT : asK C.P T U e = true)
  (hx : evl l x = some (.slice A n c)) (hy : evl l y = some (.string s)) (hM : M[j]? = some (.own (.slice A n c) e 1 n (ys.flatMap (eI .u8)))) (ho : Ow z0 A n c ys) (hz0 : z0 ≤ C.w0.heap.size) (hz : zs = ys ++ bsOf s) (hb : zs.length * 1 ≤ 211106232532992)
  (hd : Nat.ble (d + 1) C.n = true)
  (h : ∀ A' c', Ow z0 A' (n + s.size) c' zs → Nx ((d, .slice A' (n + s.size) c') :: l) (M.set j (.own (.slice A' (n + s.size) c') e 1 (n + s.size) (zs.flatMap (eI .u8)))) S) : Stp C ⟨some d, .call { callee := .builtin .append, args := #[x, y], argTypes := #[T, U] }, ty, pos, after, g⟩ l M S Nx :=
 s_run hd fun a w hF hL => by
  have hown : Orow w e 1 (.slice A n c) n (ys.flatMap (eI .u8)) := hL.ok _ (List.mem_iff_getElem?.2 ⟨j, hM⟩)
  have hq : n + s.size = zs.length := by rw [hz, List.length_append, bsOf_len, ho.hq]
  obtain ⟨t1, t2, i, t3, t4, t5, t6⟩ := asK_spec hT
  obtain ⟨v', w', hrun, h2, h3, h5⟩ := Orow.appendS (P := C.P) T U ty e t1 t2 t3 t4 t5 t6 hown s (by unfold maxLen; omega) (by omega)
  rw [strCells_eq, ← List.flatMap_append, ← hz] at h2
  obtain ⟨A', c', rfl, f1, f2, f3⟩ := h2.form
  refine ⟨_, w', _, _, ?_, upd_app hL hM h2 h3 h5, h A' c' ⟨hq, f3, f1, f2, fun b hb => ?_⟩⟩
  ·simp [execOp, resolve, invoke, builtin, hF.ev hx, hF.ev hy, hrun, Sem.run_pure, Sem.run_bind]
  ·rcases h5 with h5 | h5
   ·rw [h5] at hb; exact ho.hz b hb
   ·rw [h5] at hb
    injection hb with hb
    have := hL.env.size
    omega
end ops
end Go.Proofs.YtmfopcbjgbphaaaDoor.B
