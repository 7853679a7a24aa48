/- Queries: the concrete calls that the laws begin with. No condition. -/
import Derived.Test.YtjookebbmfiidaaDoorX2
import Derived.Test.YtjookebbmfiidaaDoorSC
import Derived.Test.YtjookebbmfiidaaDoorS6
set_option linter.unusedVariables false
namespace Go.Proofs.YtjookebbmfiidaaDoor.L
open Go.Proofs.YtjookebbmfiidaaDoor.B Go.Proofs.YtjookebbmfiidaaDoor.R
abbrev sqB : ByteArray := ⟨#[40, 115, 32, 40, 97, 41, 32, 64, 120, 41, 32, 119, 104, 101, 110, 32, 64, 120, 32, 61, 32, 34, 121, 34]⟩
def sqW : List Ah := [⟨5, ⟨#[40]⟩, 0, 0⟩, ⟨1, ⟨#[115]⟩, 0, 1⟩, ⟨5, ⟨#[40]⟩, 0, 3⟩, ⟨1, ⟨#[97]⟩, 0, 4⟩, ⟨5, ⟨#[41]⟩, 0, 5⟩, ⟨5, ⟨#[64]⟩, 0, 7⟩, ⟨1, ⟨#[120]⟩, 0, 8⟩, ⟨5, ⟨#[41]⟩, 0, 9⟩, ⟨1, ⟨#[119, 104, 101, 110]⟩, 0, 11⟩, ⟨5, ⟨#[64]⟩, 0, 16⟩, ⟨1, ⟨#[120]⟩, 0, 17⟩, ⟨5, ⟨#[61]⟩, 0, 19⟩, ⟨2, ⟨#[121]⟩, 0, 21⟩]
theorem sq_cut : cutF (Dc sqB) 0 = (sqW, 0, 0) := by
 rw [show Dc sqB = [40, 115, 32, 40, 97, 41, 32, 64, 120, 41, 32, 119, 104, 101, 110, 32, 64, 120, 32, 61, 32, 34, 121, 34] by decide]
 have f1 : cutF [34, 121, 34] 21 = ([⟨2, ⟨#[121]⟩, 0, 21⟩], 0, 0) := Uf (kd := 2) (t := [121]) (n := 0) (k := 3) (by
   show (match quF [121, 34] with
    | .inl (t, k) => Item.word 2 t 0 (k + 1)
    | .inr none => .err 82 0
    | .inr (some d) => .err 82 (d + 1)) = _
   rw [quF_o (by decide) (by decide) (by decide), Xjv]
   rfl) (Xbp _)
 have f2 : cutF [32, 34, 121, 34] 20 = ([⟨2, ⟨#[121]⟩, 0, 21⟩], 0, 0) := Xdd (k := 1) (by rfl) f1
 have f3 : cutF [61, 32, 34, 121, 34] 19 = ([⟨5, ⟨#[61]⟩, 0, 19⟩, ⟨2, ⟨#[121]⟩, 0, 21⟩], 0, 0) := Uf (kd := 5) (t := [61]) (n := 0) (k := 1) (by rfl) f2
 have f4 : cutF [32, 61, 32, 34, 121, 34] 18 = ([⟨5, ⟨#[61]⟩, 0, 19⟩, ⟨2, ⟨#[121]⟩, 0, 21⟩], 0, 0) := Xdd (k := 1) (by rfl) f3
 have f5 : cutF [120, 32, 61, 32, 34, 121, 34] 17 = ([⟨1, ⟨#[120]⟩, 0, 17⟩, ⟨5, ⟨#[61]⟩, 0, 19⟩, ⟨2, ⟨#[121]⟩, 0, 21⟩], 0, 0) := Uf (kd := 1) (t := [120]) (n := 0) (k := 1) (by rfl) f4
 have f6 : cutF [64, 120, 32, 61, 32, 34, 121, 34] 16 = ([⟨5, ⟨#[64]⟩, 0, 16⟩, ⟨1, ⟨#[120]⟩, 0, 17⟩, ⟨5, ⟨#[61]⟩, 0, 19⟩, ⟨2, ⟨#[121]⟩, 0, 21⟩], 0, 0) := Uf (kd := 5) (t := [64]) (n := 0) (k := 1) (by rfl) f5
 have f7 : cutF [32, 64, 120, 32, 61, 32, 34, 121, 34] 15 = ([⟨5, ⟨#[64]⟩, 0, 16⟩, ⟨1, ⟨#[120]⟩, 0, 17⟩, ⟨5, ⟨#[61]⟩, 0, 19⟩, ⟨2, ⟨#[121]⟩, 0, 21⟩], 0, 0) := Xdd (k := 1) (by rfl) f6
 have f8 : cutF [119, 104, 101, 110, 32, 64, 120, 32, 61, 32, 34, 121, 34] 11 = ([⟨1, ⟨#[119, 104, 101, 110]⟩, 0, 11⟩, ⟨5, ⟨#[64]⟩, 0, 16⟩, ⟨1, ⟨#[120]⟩, 0, 17⟩, ⟨5, ⟨#[61]⟩, 0, 19⟩, ⟨2, ⟨#[121]⟩, 0, 21⟩], 0, 0) := Uf (kd := 1) (t := [119, 104, 101, 110]) (n := 0) (k := 4) (by rfl) f7
 have f9 : cutF [32, 119, 104, 101, 110, 32, 64, 120, 32, 61, 32, 34, 121, 34] 10 = ([⟨1, ⟨#[119, 104, 101, 110]⟩, 0, 11⟩, ⟨5, ⟨#[64]⟩, 0, 16⟩, ⟨1, ⟨#[120]⟩, 0, 17⟩, ⟨5, ⟨#[61]⟩, 0, 19⟩, ⟨2, ⟨#[121]⟩, 0, 21⟩], 0, 0) := Xdd (k := 1) (by rfl) f8
 have f10 : cutF [41, 32, 119, 104, 101, 110, 32, 64, 120, 32, 61, 32, 34, 121, 34] 9 = ([⟨5, ⟨#[41]⟩, 0, 9⟩, ⟨1, ⟨#[119, 104, 101, 110]⟩, 0, 11⟩, ⟨5, ⟨#[64]⟩, 0, 16⟩, ⟨1, ⟨#[120]⟩, 0, 17⟩, ⟨5, ⟨#[61]⟩, 0, 19⟩, ⟨2, ⟨#[121]⟩, 0, 21⟩], 0, 0) := Uf (kd := 5) (t := [41]) (n := 0) (k := 1) (by rfl) f9
 have f11 : cutF [120, 41, 32, 119, 104, 101, 110, 32, 64, 120, 32, 61, 32, 34, 121, 34] 8 = ([⟨1, ⟨#[120]⟩, 0, 8⟩, ⟨5, ⟨#[41]⟩, 0, 9⟩, ⟨1, ⟨#[119, 104, 101, 110]⟩, 0, 11⟩, ⟨5, ⟨#[64]⟩, 0, 16⟩, ⟨1, ⟨#[120]⟩, 0, 17⟩, ⟨5, ⟨#[61]⟩, 0, 19⟩, ⟨2, ⟨#[121]⟩, 0, 21⟩], 0, 0) := Uf (kd := 1) (t := [120]) (n := 0) (k := 1) (by rfl) f10
 have f12 : cutF [64, 120, 41, 32, 119, 104, 101, 110, 32, 64, 120, 32, 61, 32, 34, 121, 34] 7 = ([⟨5, ⟨#[64]⟩, 0, 7⟩, ⟨1, ⟨#[120]⟩, 0, 8⟩, ⟨5, ⟨#[41]⟩, 0, 9⟩, ⟨1, ⟨#[119, 104, 101, 110]⟩, 0, 11⟩, ⟨5, ⟨#[64]⟩, 0, 16⟩, ⟨1, ⟨#[120]⟩, 0, 17⟩, ⟨5, ⟨#[61]⟩, 0, 19⟩, ⟨2, ⟨#[121]⟩, 0, 21⟩], 0, 0) := Uf (kd := 5) (t := [64]) (n := 0) (k := 1) (by rfl) f11
 have f13 : cutF [32, 64, 120, 41, 32, 119, 104, 101, 110, 32, 64, 120, 32, 61, 32, 34, 121, 34] 6 = ([⟨5, ⟨#[64]⟩, 0, 7⟩, ⟨1, ⟨#[120]⟩, 0, 8⟩, ⟨5, ⟨#[41]⟩, 0, 9⟩, ⟨1, ⟨#[119, 104, 101, 110]⟩, 0, 11⟩, ⟨5, ⟨#[64]⟩, 0, 16⟩, ⟨1, ⟨#[120]⟩, 0, 17⟩, ⟨5, ⟨#[61]⟩, 0, 19⟩, ⟨2, ⟨#[121]⟩, 0, 21⟩], 0, 0) := Xdd (k := 1) (by rfl) f12
 have f14 : cutF [41, 32, 64, 120, 41, 32, 119, 104, 101, 110, 32, 64, 120, 32, 61, 32, 34, 121, 34] 5 = ([⟨5, ⟨#[41]⟩, 0, 5⟩, ⟨5, ⟨#[64]⟩, 0, 7⟩, ⟨1, ⟨#[120]⟩, 0, 8⟩, ⟨5, ⟨#[41]⟩, 0, 9⟩, ⟨1, ⟨#[119, 104, 101, 110]⟩, 0, 11⟩, ⟨5, ⟨#[64]⟩, 0, 16⟩, ⟨1, ⟨#[120]⟩, 0, 17⟩, ⟨5, ⟨#[61]⟩, 0, 19⟩, ⟨2, ⟨#[121]⟩, 0, 21⟩], 0, 0) := Uf (kd := 5) (t := [41]) (n := 0) (k := 1) (by rfl) f13
 have f15 : cutF [97, 41, 32, 64, 120, 41, 32, 119, 104, 101, 110, 32, 64, 120, 32, 61, 32, 34, 121, 34] 4 = ([⟨1, ⟨#[97]⟩, 0, 4⟩, ⟨5, ⟨#[41]⟩, 0, 5⟩, ⟨5, ⟨#[64]⟩, 0, 7⟩, ⟨1, ⟨#[120]⟩, 0, 8⟩, ⟨5, ⟨#[41]⟩, 0, 9⟩, ⟨1, ⟨#[119, 104, 101, 110]⟩, 0, 11⟩, ⟨5, ⟨#[64]⟩, 0, 16⟩, ⟨1, ⟨#[120]⟩, 0, 17⟩, ⟨5, ⟨#[61]⟩, 0, 19⟩, ⟨2, ⟨#[121]⟩, 0, 21⟩], 0, 0) := Uf (kd := 1) (t := [97]) (n := 0) (k := 1) (by rfl) f14
 have f16 : cutF [40, 97, 41, 32, 64, 120, 41, 32, 119, 104, 101, 110, 32, 64, 120, 32, 61, 32, 34, 121, 34] 3 = ([⟨5, ⟨#[40]⟩, 0, 3⟩, ⟨1, ⟨#[97]⟩, 0, 4⟩, ⟨5, ⟨#[41]⟩, 0, 5⟩, ⟨5, ⟨#[64]⟩, 0, 7⟩, ⟨1, ⟨#[120]⟩, 0, 8⟩, ⟨5, ⟨#[41]⟩, 0, 9⟩, ⟨1, ⟨#[119, 104, 101, 110]⟩, 0, 11⟩, ⟨5, ⟨#[64]⟩, 0, 16⟩, ⟨1, ⟨#[120]⟩, 0, 17⟩, ⟨5, ⟨#[61]⟩, 0, 19⟩, ⟨2, ⟨#[121]⟩, 0, 21⟩], 0, 0) := Uf (kd := 5) (t := [40]) (n := 0) (k := 1) (by rfl) f15
 have f17 : cutF [32, 40, 97, 41, 32, 64, 120, 41, 32, 119, 104, 101, 110, 32, 64, 120, 32, 61, 32, 34, 121, 34] 2 = ([⟨5, ⟨#[40]⟩, 0, 3⟩, ⟨1, ⟨#[97]⟩, 0, 4⟩, ⟨5, ⟨#[41]⟩, 0, 5⟩, ⟨5, ⟨#[64]⟩, 0, 7⟩, ⟨1, ⟨#[120]⟩, 0, 8⟩, ⟨5, ⟨#[41]⟩, 0, 9⟩, ⟨1, ⟨#[119, 104, 101, 110]⟩, 0, 11⟩, ⟨5, ⟨#[64]⟩, 0, 16⟩, ⟨1, ⟨#[120]⟩, 0, 17⟩, ⟨5, ⟨#[61]⟩, 0, 19⟩, ⟨2, ⟨#[121]⟩, 0, 21⟩], 0, 0) := Xdd (k := 1) (by rfl) f16
 have f18 : cutF [115, 32, 40, 97, 41, 32, 64, 120, 41, 32, 119, 104, 101, 110, 32, 64, 120, 32, 61, 32, 34, 121, 34] 1 = ([⟨1, ⟨#[115]⟩, 0, 1⟩, ⟨5, ⟨#[40]⟩, 0, 3⟩, ⟨1, ⟨#[97]⟩, 0, 4⟩, ⟨5, ⟨#[41]⟩, 0, 5⟩, ⟨5, ⟨#[64]⟩, 0, 7⟩, ⟨1, ⟨#[120]⟩, 0, 8⟩, ⟨5, ⟨#[41]⟩, 0, 9⟩, ⟨1, ⟨#[119, 104, 101, 110]⟩, 0, 11⟩, ⟨5, ⟨#[64]⟩, 0, 16⟩, ⟨1, ⟨#[120]⟩, 0, 17⟩, ⟨5, ⟨#[61]⟩, 0, 19⟩, ⟨2, ⟨#[121]⟩, 0, 21⟩], 0, 0) := Uf (kd := 1) (t := [115]) (n := 0) (k := 1) (by rfl) f17
 have f19 : cutF [40, 115, 32, 40, 97, 41, 32, 64, 120, 41, 32, 119, 104, 101, 110, 32, 64, 120, 32, 61, 32, 34, 121, 34] 0 = ([⟨5, ⟨#[40]⟩, 0, 0⟩, ⟨1, ⟨#[115]⟩, 0, 1⟩, ⟨5, ⟨#[40]⟩, 0, 3⟩, ⟨1, ⟨#[97]⟩, 0, 4⟩, ⟨5, ⟨#[41]⟩, 0, 5⟩, ⟨5, ⟨#[64]⟩, 0, 7⟩, ⟨1, ⟨#[120]⟩, 0, 8⟩, ⟨5, ⟨#[41]⟩, 0, 9⟩, ⟨1, ⟨#[119, 104, 101, 110]⟩, 0, 11⟩, ⟨5, ⟨#[64]⟩, 0, 16⟩, ⟨1, ⟨#[120]⟩, 0, 17⟩, ⟨5, ⟨#[61]⟩, 0, 19⟩, ⟨2, ⟨#[121]⟩, 0, 21⟩], 0, 0) := Uf (kd := 5) (t := [40]) (n := 0) (k := 1) (by rfl) f18
 exact f19
abbrev sqX : Ag := ⟨⟨#[115]⟩, false, noB, noB, 1⟩
abbrev sqK : PF := .cons ⟨⟨#[97]⟩, false, noB, ⟨#[120]⟩, 0⟩ .nil .nil
abbrev sqC : List Bh := [⟨false, ⟨#[120]⟩, noB, ⟨#[121]⟩⟩]
theorem sq_toks : Xdb sqW = Pv sqX sqK sqC := by decide +kernel
theorem Xbw : Ud nmQ sqX sqK sqC := by
 refine ⟨⟨rfl, ⟨rfl, trivial, trivial⟩, trivial⟩, by decide +kernel, by decide +kernel, by decide, by decide, fun c hc => ?_⟩
 rw [List.mem_singleton.1 hc]
 exact ⟨Xc1.1 (by decide +kernel), .inl rfl⟩
theorem sq_sz : SzQ ⟨sqX :: Bz sqK, sqC⟩ := by
 refine ⟨fun x hx => ?_, fun c hc => ?_⟩
 ·rcases List.mem_cons.1 hx with rfl | hx
  ·exact ⟨by decide, by decide, by decide⟩
  ·rw [List.mem_singleton.1 hx]
   exact ⟨by decide, by decide, by decide⟩
 ·rw [List.mem_singleton.1 hc]
  exact ⟨by decide, by decide, by decide⟩
theorem sq_parse : Qc sqB (⟨sqX :: Bz sqK, sqC⟩, 0, 0) := by
 have h := cut_ok (s := sqB) (by decide)
 rw [sq_cut] at h
 have hp := Xgh h (show sqW.length ≤ 2 ^ 40 by decide)
 unfold Xgq at hp
 rw [if_pos rfl] at hp
 dsimp only at hp
 rw [sq_toks, Xgo nmQ_nm Xbw] at hp
 exact hp
theorem sq_text : Xgx sqX sqK sqC = ⟨#[40, 32, 115, 32, 40, 32, 97, 32, 41, 32, 64, 32, 120, 32, 41, 32, 119, 104, 101, 110, 32, 64, 32, 120, 32, 61, 32, 34, 121, 34]⟩ := by decide +kernel
abbrev sqT : List Bd := [(⟨(⟨#[115]⟩ : ByteArray), true, (⟨#[]⟩ : ByteArray), 0, 2, 2, -1⟩ : Bd), (⟨(⟨#[97]⟩ : ByteArray), true, (⟨#[]⟩ : ByteArray), 0, 1, 0, 0⟩ : Bd), (⟨(⟨#[97]⟩ : ByteArray), true, (⟨#[]⟩ : ByteArray), 1, 2, 0, 1⟩ : Bd)]
theorem sq_all1 : allF sqX sqK sqC sqT ⟨#[121, 122]⟩ = [⟨[0, 1]⟩] := by decide +kernel
theorem sq_all2 : allF sqX sqK sqC sqT ⟨#[122, 121]⟩ = [] := by decide +kernel
theorem Xkp {a : List Int} (h : a.length ≤ 2 ^ 60) : Jt a a true := by
 unfold Jt
 rw [if_pos rfl]
 refine Bl.cnt a.length (fun i hi => ?_) ?_
 ·unfold H7
  rw [if_pos (by omega)]
  refine ⟨⟨by omega, by omega⟩, ⟨by omega, by omega⟩, ?_⟩
  rw [if_pos rfl, Dj (by omega)]
 ·unfold H7
  rw [if_neg (Int.lt_irrefl _)]
theorem qstarted : Pe true := by
 refine ⟨_, sq_parse, ?_⟩
 dsimp only
 rw [if_pos rfl, if_pos rfl, if_pos (by decide)]
 unfold Gs
 have hw : Wf sqT := fun n hn => by
  rcases List.mem_cons.1 hn with rfl | hn
  ·exact ⟨by decide, by decide⟩
  rcases List.mem_cons.1 hn with rfl | hn
  ·exact ⟨by decide, by decide⟩
  ·rw [List.mem_singleton.1 hn]
   exact ⟨by decide, by decide⟩
 have hr : 0 ≤ numF sqT := by decide +kernel
 have a1 := Xmf Xbw sq_sz.w (t := sqT) (by decide) hw hr ⟨#[121, 122]⟩
 have a2 := Xmf Xbw sq_sz.w (t := sqT) (by decide) hw hr ⟨#[122, 121]⟩
 rw [sq_all1] at a1
 rw [sq_all2] at a2
 rw [if_neg (by decide)]
 refine ⟨_, a1, _, a2, _, Xdx Xbw sq_sz, ?_⟩
 rw [if_pos (by decide)]
 refine ⟨⟨by decide, by decide⟩, true, Xkp (a := [0, 1]) (by decide), ?_⟩
 rw [if_pos rfl, if_pos (by decide), if_pos rfl, sq_text, Q8 rfl]
end Go.Proofs.YtjookebbmfiidaaDoor.L
set_option linter.unusedVariables false
namespace Go.Proofs.YtjookebbmfiidaaDoor.L
open Go.Proofs.YtjookebbmfiidaaDoor.B Go.Proofs.YtjookebbmfiidaaDoor.R
theorem qsame {q : Am} (h1 : q.nodes.length ≤ 2 ^ 40) (h2 : q.conds.length ≤ 2 ^ 40) : Oz q q true := by
 unfold Oz
 rw [if_pos rfl]
 unfold La
 rw [if_neg (by simp)]
 refine Bl.to (fun i => 0 ≤ i ∧ i ≤ (q.nodes.length : Int)) (fun i => ((q.nodes.length : Int) - i).toNat) (fun i hi => ?_) ⟨by omega, by omega⟩
 unfold Ky
 by_cases hc : i < (q.nodes.length : Int)
 ·right
  refine ⟨i + 1, ?_, ⟨by omega, by omega⟩, by omega⟩
  rw [if_pos hc]
  refine ⟨⟨hi.1, hc⟩, ⟨hi.1, hc⟩, ?_⟩
  rw [if_pos rfl, Dj (by omega)]
 ·left
  rw [if_neg hc]
  refine Bl.to (fun i => 0 ≤ i ∧ i ≤ (q.conds.length : Int)) (fun i => ((q.conds.length : Int) - i).toNat) (fun i hi => ?_) ⟨by omega, by omega⟩
  unfold L8
  by_cases hc : i < (q.conds.length : Int)
  ·right
   refine ⟨i + 1, ?_, ⟨by omega, by omega⟩, by omega⟩
   rw [if_pos hc]
   refine ⟨⟨hi.1, hc⟩, ⟨hi.1, hc⟩, ?_⟩
   rw [if_pos rfl, Dj (by omega)]
  ·left
   rw [if_neg hc]
end Go.Proofs.YtjookebbmfiidaaDoor.L
set_option linter.unusedVariables false
namespace Go.Proofs.YtjookebbmfiidaaDoor.L
open Go.Proofs.YtjookebbmfiidaaDoor.B Go.Proofs.YtjookebbmfiidaaDoor.R
def GoodT (t : Tk) : Prop := N8 (mkW t) = true ∧ t.1 ≠ 4
theorem Xdp {s : ByteArray} (h : nmQ s = true) : GoodT (1, s) := by
 unfold nmQ at h
 rw [Bool.and_eq_true] at h
 exact ⟨h.2, show (1 : Int) ≠ 4 by decide⟩
theorem Xbh : ∀ (g : PF), V3 nmQ g = true → ∀ t ∈ Eg g, GoodT t
 | .nil, _, t, ht => by cases ht
 | .cons x k s, hg, t, ht => by
  obtain ⟨g1, g2, g3, g4, g5, g6⟩ := Ut hg
  have hk := Xbh k g5
  have hs := Xbh s g6
  simp only [Eg, List.mem_append] at ht
  rcases ht with ht | ht | ht | ht
  ·unfold Yp at ht
   split at ht
   ·cases ht
   ·rename_i hf
    rcases List.mem_cons.1 ht with rfl | ht
    ·exact Xdp (g3.resolve_left hf)
    ·rw [List.mem_singleton.1 ht]; exact ⟨by decide +kernel, by decide⟩
  ·split at ht
   ·rw [List.mem_singleton.1 ht]; exact ⟨rfl, by show (2 : Int) ≠ 4; decide⟩
   ·rename_i hl
    rcases List.mem_cons.1 ht with rfl | ht
    ·exact ⟨by decide +kernel, by decide⟩
    rcases List.mem_cons.1 ht with rfl | ht
    ·unfold Pz
     by_cases hn : x.name = noB
     ·rw [if_pos hn]; exact ⟨by decide +kernel, by decide⟩
     ·rw [if_neg hn]; exact Xdp ((g2 (by simpa using hl)).resolve_left hn)
    rcases List.mem_append.1 ht with ht | ht
    ·exact hk t ht
    ·rw [List.mem_singleton.1 ht]; exact ⟨by decide +kernel, by decide⟩
  ·unfold Rj at ht
   split at ht
   ·cases ht
   ·rename_i hf
    rcases List.mem_cons.1 ht with rfl | ht
    ·exact ⟨by decide +kernel, by decide⟩
    ·rw [List.mem_singleton.1 ht]; exact Xdp (g4.resolve_left hf)
  ·exact hs t ht
theorem Xkx {x : Ag} {k : PF} {l : List Bh} (h : Ud nmQ x k l) : ∀ t ∈ Pv x k l, GoodT t := fun t ht => by
 obtain ⟨h1, h2, h3, h4, h5, h6⟩ := h
 have hcap : ∀ y ∈ J4 (.cons x k .nil) [], nmQ y = true := Xg3 _ [] h2 (fun y hy => by cases hy)
 unfold Pv at ht
 rcases List.mem_append.1 ht with ht | ht
 ·exact Xbh _ h2 t ht
 ·obtain ⟨c, hc, ht⟩ := List.mem_flatMap.1 ht
  obtain ⟨c1, c2⟩ := h6 c hc
  unfold I4 at ht
  rcases List.mem_cons.1 ht with rfl | ht
  ·by_cases hn : c.not = true
   ·rw [if_pos hn]; exact ⟨by decide +kernel, by decide⟩
   ·rw [if_neg hn]; exact ⟨by decide +kernel, by decide⟩
  rcases List.mem_cons.1 ht with rfl | ht
  ·exact ⟨by decide +kernel, by decide⟩
  rcases List.mem_cons.1 ht with rfl | ht
  ·exact Xdp (hcap _ c1)
  rcases List.mem_cons.1 ht with rfl | ht
  ·exact ⟨by decide +kernel, by decide⟩
  split at ht
  ·rw [List.mem_singleton.1 ht]; exact ⟨rfl, by show (2 : Int) ≠ 4; decide⟩
  ·rename_i hb
   rcases List.mem_cons.1 ht with rfl | ht
   ·exact ⟨by decide +kernel, by decide⟩
   ·rw [List.mem_singleton.1 ht]; exact Xdp (hcap _ (c2.resolve_left hb).1)
theorem Xfn : ∀ (l : List Tk) (pos : Nat), (∀ t ∈ l, t.1 ≠ 4) → Xdb (placed (l.map mkW) pos) = l
 | [], pos, _ => rfl
 | t :: l, pos, h => by
  have h1 := h t (List.mem_cons_self ..)
  have ih := fun p => Xfn l p (fun u hu => h u (List.mem_cons_of_mem _ hu))
  have ht : txF (mkW t) = Dc t.2 := by unfold txF mkW; rw [if_neg h1]
  show Xdb (_ :: placed _ _) = _
  unfold Xdb at ih ⊢
  rw [List.map_cons, ih]
  show ((mkW t).kind, Px (txF (mkW t))) :: l = t :: l
  rw [ht, Xel]
  rfl
theorem Xlx {x : Ag} {k : PF} {l : List Bh} (h : Ud nmQ x k l) (hz : (Xgx x k l).size ≤ 16384) : Qc (Xgx x k l) (⟨x :: Bz k, l⟩, 0, 0) := by
 have hg := Xkx h
 have hall : ((Pv x k l).map mkW).all N8 = true := by
  rw [List.all_eq_true]
  intro w hw
  obtain ⟨t, ht, rfl⟩ := List.mem_map.1 hw
  exact (hg t ht).1
 have hb : Dc (Xgx x k l) = jn ((((Pv x k l).map mkW).map Nh).map Dc) := by
  unfold Xgx joinF
  rw [if_pos hall, Xc2]
 have hc := cut_ok hz
 rw [hb, Xhy _ 0 (fun w hw => List.all_eq_true.1 hall w hw)] at hc
 have hp := Xgh hc (by
  show (placed ((Pv x k l).map mkW) 0).length ≤ 2 ^ 40
  rw [Xh2, List.length_map]
  have := Xhi (x := x) h.len.1 h.len.2
  omega)
 unfold Xgq at hp
 rw [if_pos rfl] at hp
 dsimp only at hp
 rw [Xfn _ 0 (fun t ht => (hg t ht).2), Xgo nmQ_nm h] at hp
 exact hp
theorem Xl9 {s : ByteArray} (h : s.size > 16384) : Qc s (⟨[], []⟩, 80, 16384) := by
 have hp := Xgh (cut_long h) (by decide)
 unfold Xgq at hp
 rw [if_neg (by decide)] at hp
 exact hp
theorem back_law {q : Am} (h1 : q.nodes.length ≤ 2 ^ 40) (hz : SzQ q) : N9 q true := by
 refine ⟨true, qstarted, ?_⟩
 rw [if_pos rfl]
 obtain ⟨b, hb⟩ := Xkt (v := q.nodes) h1
 refine ⟨b, hb, ?_⟩
 cases b with
 | true => rw [if_pos rfl]
 | false =>
 rw [if_neg (by simp)]
 cases e : Vd q with
 | false =>
  refine ⟨_, (Xnh e hz).1, false, by rw [← e]; exact Y5 hz.w, ?_⟩
  rw [if_neg (by simp), if_pos rfl]
  show true = seq noB noB
  rw [Q8 rfl]
 | true =>
  obtain ⟨x, k, e1, e2⟩ := Xgf e
  obtain ⟨ns, cs⟩ := q
  dsimp only at e1 e2
  subst e1
  refine ⟨_, Xdx e2 hz, true, by rw [← e]; exact Y5 hz.w, ?_⟩
  rw [if_pos rfl]
  obtain ⟨l1, l2⟩ := e2.len
  by_cases g : (Xgx x k cs).size > 16384
  ·refine ⟨_, Xl9 g, ?_⟩
   dsimp only
   rw [if_pos (by omega), if_pos rfl]
   rfl
  ·refine ⟨_, Xlx e2 (by omega), ?_⟩
   dsimp only
   rw [if_neg (by omega), if_pos rfl, if_pos rfl, if_pos rfl]
   exact ⟨true, qsame (q := ⟨x :: Bz k, cs⟩) h1 (by show cs.length ≤ _; omega), rfl⟩
end Go.Proofs.YtjookebbmfiidaaDoor.L
