/- Queries: the concrete calls that the laws begin with. No condition. -/
import Derived.Test.YtjookebbmfiidaaDoorX2
import Derived.Test.YtjookebbmfiidaaDoorSC
import Derived.Test.YtjookebbmfiidaaDoorS6
set_option linter.unusedVariables false
namespace Go.Proofs.YtjookebbmfiidaaDoor.L
open Go.Proofs.YtjookebbmfiidaaDoor.B Go.Proofs.YtjookebbmfiidaaDoor.R
abbrev sqB : ByteArray := ⟨#[40, 115, 32, 40, 97, 41, 32, 64, 120, 41, 32, 119, 104, 101, 110, 32, 64, 120, 32, 61, 32, 34, 121, 34]⟩
def sqW : List Ak := [⟨5, ⟨#[40]⟩, 0, 0⟩, ⟨1, ⟨#[115]⟩, 0, 1⟩, ⟨5, ⟨#[40]⟩, 0, 3⟩, ⟨1, ⟨#[97]⟩, 0, 4⟩, ⟨5, ⟨#[41]⟩, 0, 5⟩, ⟨5, ⟨#[64]⟩, 0, 7⟩, ⟨1, ⟨#[120]⟩, 0, 8⟩, ⟨5, ⟨#[41]⟩, 0, 9⟩, ⟨1, ⟨#[119, 104, 101, 110]⟩, 0, 11⟩, ⟨5, ⟨#[64]⟩, 0, 16⟩, ⟨1, ⟨#[120]⟩, 0, 17⟩, ⟨5, ⟨#[61]⟩, 0, 19⟩, ⟨2, ⟨#[121]⟩, 0, 21⟩]
theorem sq_cut : cutF (Dh sqB) 0 = (sqW, 0, 0) := by
 rw [show Dh sqB = [40, 115, 32, 40, 97, 41, 32, 64, 120, 41, 32, 119, 104, 101, 110, 32, 64, 120, 32, 61, 32, 34, 121, 34] by decide]
 have f1 : cutF [34, 121, 34] 21 = ([⟨2, ⟨#[121]⟩, 0, 21⟩], 0, 0) := Ux (kd := 2) (t := [121]) (n := 0) (k := 3) (by
   show (match quF [121, 34] with
    | .inl (t, k) => Item.word 2 t 0 (k + 1)
    | .inr none => .err 82 0
    | .inr (some d) => .err 82 (d + 1)) = _
   rw [quF_o (by decide) (by decide) (by decide), Xhi]
   rfl) (Xfc _)
 have f2 : cutF [32, 34, 121, 34] 20 = ([⟨2, ⟨#[121]⟩, 0, 21⟩], 0, 0) := Xdi (k := 1) (by rfl) f1
 have f3 : cutF [61, 32, 34, 121, 34] 19 = ([⟨5, ⟨#[61]⟩, 0, 19⟩, ⟨2, ⟨#[121]⟩, 0, 21⟩], 0, 0) := Ux (kd := 5) (t := [61]) (n := 0) (k := 1) (by rfl) f2
 have f4 : cutF [32, 61, 32, 34, 121, 34] 18 = ([⟨5, ⟨#[61]⟩, 0, 19⟩, ⟨2, ⟨#[121]⟩, 0, 21⟩], 0, 0) := Xdi (k := 1) (by rfl) f3
 have f5 : cutF [120, 32, 61, 32, 34, 121, 34] 17 = ([⟨1, ⟨#[120]⟩, 0, 17⟩, ⟨5, ⟨#[61]⟩, 0, 19⟩, ⟨2, ⟨#[121]⟩, 0, 21⟩], 0, 0) := Ux (kd := 1) (t := [120]) (n := 0) (k := 1) (by rfl) f4
 have f6 : cutF [64, 120, 32, 61, 32, 34, 121, 34] 16 = ([⟨5, ⟨#[64]⟩, 0, 16⟩, ⟨1, ⟨#[120]⟩, 0, 17⟩, ⟨5, ⟨#[61]⟩, 0, 19⟩, ⟨2, ⟨#[121]⟩, 0, 21⟩], 0, 0) := Ux (kd := 5) (t := [64]) (n := 0) (k := 1) (by rfl) f5
 have f7 : cutF [32, 64, 120, 32, 61, 32, 34, 121, 34] 15 = ([⟨5, ⟨#[64]⟩, 0, 16⟩, ⟨1, ⟨#[120]⟩, 0, 17⟩, ⟨5, ⟨#[61]⟩, 0, 19⟩, ⟨2, ⟨#[121]⟩, 0, 21⟩], 0, 0) := Xdi (k := 1) (by rfl) f6
 have f8 : cutF [119, 104, 101, 110, 32, 64, 120, 32, 61, 32, 34, 121, 34] 11 = ([⟨1, ⟨#[119, 104, 101, 110]⟩, 0, 11⟩, ⟨5, ⟨#[64]⟩, 0, 16⟩, ⟨1, ⟨#[120]⟩, 0, 17⟩, ⟨5, ⟨#[61]⟩, 0, 19⟩, ⟨2, ⟨#[121]⟩, 0, 21⟩], 0, 0) := Ux (kd := 1) (t := [119, 104, 101, 110]) (n := 0) (k := 4) (by rfl) f7
 have f9 : cutF [32, 119, 104, 101, 110, 32, 64, 120, 32, 61, 32, 34, 121, 34] 10 = ([⟨1, ⟨#[119, 104, 101, 110]⟩, 0, 11⟩, ⟨5, ⟨#[64]⟩, 0, 16⟩, ⟨1, ⟨#[120]⟩, 0, 17⟩, ⟨5, ⟨#[61]⟩, 0, 19⟩, ⟨2, ⟨#[121]⟩, 0, 21⟩], 0, 0) := Xdi (k := 1) (by rfl) f8
 have f10 : cutF [41, 32, 119, 104, 101, 110, 32, 64, 120, 32, 61, 32, 34, 121, 34] 9 = ([⟨5, ⟨#[41]⟩, 0, 9⟩, ⟨1, ⟨#[119, 104, 101, 110]⟩, 0, 11⟩, ⟨5, ⟨#[64]⟩, 0, 16⟩, ⟨1, ⟨#[120]⟩, 0, 17⟩, ⟨5, ⟨#[61]⟩, 0, 19⟩, ⟨2, ⟨#[121]⟩, 0, 21⟩], 0, 0) := Ux (kd := 5) (t := [41]) (n := 0) (k := 1) (by rfl) f9
 have f11 : cutF [120, 41, 32, 119, 104, 101, 110, 32, 64, 120, 32, 61, 32, 34, 121, 34] 8 = ([⟨1, ⟨#[120]⟩, 0, 8⟩, ⟨5, ⟨#[41]⟩, 0, 9⟩, ⟨1, ⟨#[119, 104, 101, 110]⟩, 0, 11⟩, ⟨5, ⟨#[64]⟩, 0, 16⟩, ⟨1, ⟨#[120]⟩, 0, 17⟩, ⟨5, ⟨#[61]⟩, 0, 19⟩, ⟨2, ⟨#[121]⟩, 0, 21⟩], 0, 0) := Ux (kd := 1) (t := [120]) (n := 0) (k := 1) (by rfl) f10
 have f12 : cutF [64, 120, 41, 32, 119, 104, 101, 110, 32, 64, 120, 32, 61, 32, 34, 121, 34] 7 = ([⟨5, ⟨#[64]⟩, 0, 7⟩, ⟨1, ⟨#[120]⟩, 0, 8⟩, ⟨5, ⟨#[41]⟩, 0, 9⟩, ⟨1, ⟨#[119, 104, 101, 110]⟩, 0, 11⟩, ⟨5, ⟨#[64]⟩, 0, 16⟩, ⟨1, ⟨#[120]⟩, 0, 17⟩, ⟨5, ⟨#[61]⟩, 0, 19⟩, ⟨2, ⟨#[121]⟩, 0, 21⟩], 0, 0) := Ux (kd := 5) (t := [64]) (n := 0) (k := 1) (by rfl) f11
 have f13 : cutF [32, 64, 120, 41, 32, 119, 104, 101, 110, 32, 64, 120, 32, 61, 32, 34, 121, 34] 6 = ([⟨5, ⟨#[64]⟩, 0, 7⟩, ⟨1, ⟨#[120]⟩, 0, 8⟩, ⟨5, ⟨#[41]⟩, 0, 9⟩, ⟨1, ⟨#[119, 104, 101, 110]⟩, 0, 11⟩, ⟨5, ⟨#[64]⟩, 0, 16⟩, ⟨1, ⟨#[120]⟩, 0, 17⟩, ⟨5, ⟨#[61]⟩, 0, 19⟩, ⟨2, ⟨#[121]⟩, 0, 21⟩], 0, 0) := Xdi (k := 1) (by rfl) f12
 have f14 : cutF [41, 32, 64, 120, 41, 32, 119, 104, 101, 110, 32, 64, 120, 32, 61, 32, 34, 121, 34] 5 = ([⟨5, ⟨#[41]⟩, 0, 5⟩, ⟨5, ⟨#[64]⟩, 0, 7⟩, ⟨1, ⟨#[120]⟩, 0, 8⟩, ⟨5, ⟨#[41]⟩, 0, 9⟩, ⟨1, ⟨#[119, 104, 101, 110]⟩, 0, 11⟩, ⟨5, ⟨#[64]⟩, 0, 16⟩, ⟨1, ⟨#[120]⟩, 0, 17⟩, ⟨5, ⟨#[61]⟩, 0, 19⟩, ⟨2, ⟨#[121]⟩, 0, 21⟩], 0, 0) := Ux (kd := 5) (t := [41]) (n := 0) (k := 1) (by rfl) f13
 have f15 : cutF [97, 41, 32, 64, 120, 41, 32, 119, 104, 101, 110, 32, 64, 120, 32, 61, 32, 34, 121, 34] 4 = ([⟨1, ⟨#[97]⟩, 0, 4⟩, ⟨5, ⟨#[41]⟩, 0, 5⟩, ⟨5, ⟨#[64]⟩, 0, 7⟩, ⟨1, ⟨#[120]⟩, 0, 8⟩, ⟨5, ⟨#[41]⟩, 0, 9⟩, ⟨1, ⟨#[119, 104, 101, 110]⟩, 0, 11⟩, ⟨5, ⟨#[64]⟩, 0, 16⟩, ⟨1, ⟨#[120]⟩, 0, 17⟩, ⟨5, ⟨#[61]⟩, 0, 19⟩, ⟨2, ⟨#[121]⟩, 0, 21⟩], 0, 0) := Ux (kd := 1) (t := [97]) (n := 0) (k := 1) (by rfl) f14
 have f16 : cutF [40, 97, 41, 32, 64, 120, 41, 32, 119, 104, 101, 110, 32, 64, 120, 32, 61, 32, 34, 121, 34] 3 = ([⟨5, ⟨#[40]⟩, 0, 3⟩, ⟨1, ⟨#[97]⟩, 0, 4⟩, ⟨5, ⟨#[41]⟩, 0, 5⟩, ⟨5, ⟨#[64]⟩, 0, 7⟩, ⟨1, ⟨#[120]⟩, 0, 8⟩, ⟨5, ⟨#[41]⟩, 0, 9⟩, ⟨1, ⟨#[119, 104, 101, 110]⟩, 0, 11⟩, ⟨5, ⟨#[64]⟩, 0, 16⟩, ⟨1, ⟨#[120]⟩, 0, 17⟩, ⟨5, ⟨#[61]⟩, 0, 19⟩, ⟨2, ⟨#[121]⟩, 0, 21⟩], 0, 0) := Ux (kd := 5) (t := [40]) (n := 0) (k := 1) (by rfl) f15
 have f17 : cutF [32, 40, 97, 41, 32, 64, 120, 41, 32, 119, 104, 101, 110, 32, 64, 120, 32, 61, 32, 34, 121, 34] 2 = ([⟨5, ⟨#[40]⟩, 0, 3⟩, ⟨1, ⟨#[97]⟩, 0, 4⟩, ⟨5, ⟨#[41]⟩, 0, 5⟩, ⟨5, ⟨#[64]⟩, 0, 7⟩, ⟨1, ⟨#[120]⟩, 0, 8⟩, ⟨5, ⟨#[41]⟩, 0, 9⟩, ⟨1, ⟨#[119, 104, 101, 110]⟩, 0, 11⟩, ⟨5, ⟨#[64]⟩, 0, 16⟩, ⟨1, ⟨#[120]⟩, 0, 17⟩, ⟨5, ⟨#[61]⟩, 0, 19⟩, ⟨2, ⟨#[121]⟩, 0, 21⟩], 0, 0) := Xdi (k := 1) (by rfl) f16
 have f18 : cutF [115, 32, 40, 97, 41, 32, 64, 120, 41, 32, 119, 104, 101, 110, 32, 64, 120, 32, 61, 32, 34, 121, 34] 1 = ([⟨1, ⟨#[115]⟩, 0, 1⟩, ⟨5, ⟨#[40]⟩, 0, 3⟩, ⟨1, ⟨#[97]⟩, 0, 4⟩, ⟨5, ⟨#[41]⟩, 0, 5⟩, ⟨5, ⟨#[64]⟩, 0, 7⟩, ⟨1, ⟨#[120]⟩, 0, 8⟩, ⟨5, ⟨#[41]⟩, 0, 9⟩, ⟨1, ⟨#[119, 104, 101, 110]⟩, 0, 11⟩, ⟨5, ⟨#[64]⟩, 0, 16⟩, ⟨1, ⟨#[120]⟩, 0, 17⟩, ⟨5, ⟨#[61]⟩, 0, 19⟩, ⟨2, ⟨#[121]⟩, 0, 21⟩], 0, 0) := Ux (kd := 1) (t := [115]) (n := 0) (k := 1) (by rfl) f17
 have f19 : cutF [40, 115, 32, 40, 97, 41, 32, 64, 120, 41, 32, 119, 104, 101, 110, 32, 64, 120, 32, 61, 32, 34, 121, 34] 0 = ([⟨5, ⟨#[40]⟩, 0, 0⟩, ⟨1, ⟨#[115]⟩, 0, 1⟩, ⟨5, ⟨#[40]⟩, 0, 3⟩, ⟨1, ⟨#[97]⟩, 0, 4⟩, ⟨5, ⟨#[41]⟩, 0, 5⟩, ⟨5, ⟨#[64]⟩, 0, 7⟩, ⟨1, ⟨#[120]⟩, 0, 8⟩, ⟨5, ⟨#[41]⟩, 0, 9⟩, ⟨1, ⟨#[119, 104, 101, 110]⟩, 0, 11⟩, ⟨5, ⟨#[64]⟩, 0, 16⟩, ⟨1, ⟨#[120]⟩, 0, 17⟩, ⟨5, ⟨#[61]⟩, 0, 19⟩, ⟨2, ⟨#[121]⟩, 0, 21⟩], 0, 0) := Ux (kd := 5) (t := [40]) (n := 0) (k := 1) (by rfl) f18
 exact f19
abbrev sqX : Ag := ⟨⟨#[115]⟩, false, noB, noB, 1⟩
abbrev sqK : PF := .cons ⟨⟨#[97]⟩, false, noB, ⟨#[120]⟩, 0⟩ .nil .nil
abbrev sqC : List Bi := [⟨false, ⟨#[120]⟩, noB, ⟨#[121]⟩⟩]
theorem sq_toks : Xe8 sqW = Tq sqX sqK sqC := by decide +kernel
theorem Xan : Vf nmQ sqX sqK sqC := by
 refine ⟨⟨rfl, ⟨rfl, trivial, trivial⟩, trivial⟩, by decide +kernel, by decide +kernel, by decide, by decide, fun c hc => ?_⟩
 rw [List.mem_singleton.1 hc]
 exact ⟨Xaj.1 (by decide +kernel), .inl rfl⟩
theorem sq_sz : SzQ ⟨sqX :: Bz sqK, sqC⟩ := by
 refine ⟨fun x hx => ?_, fun c hc => ?_⟩
 ·rcases List.mem_cons.1 hx with rfl | hx
  ·exact ⟨by decide, by decide, by decide⟩
  ·rw [List.mem_singleton.1 hx]
   exact ⟨by decide, by decide, by decide⟩
 ·rw [List.mem_singleton.1 hc]
  exact ⟨by decide, by decide, by decide⟩
theorem sq_parse : Vk sqB (⟨sqX :: Bz sqK, sqC⟩, 0, 0) := by
 have h := cut_ok (s := sqB) (by decide)
 rw [sq_cut] at h
 have hp := parse_ok h (show sqW.length ≤ 2 ^ 40 by decide)
 unfold Xjt at hp
 rw [if_pos rfl] at hp
 dsimp only at hp
 rw [sq_toks, Xjn nmQ_nm Xan] at hp
 exact hp
theorem sq_text : textQ sqX sqK sqC = ⟨#[40, 32, 115, 32, 40, 32, 97, 32, 41, 32, 64, 32, 120, 32, 41, 32, 119, 104, 101, 110, 32, 64, 32, 120, 32, 61, 32, 34, 121, 34]⟩ := by decide +kernel
abbrev sqT : List Ba := [(⟨(⟨#[115]⟩ : ByteArray), true, (⟨#[]⟩ : ByteArray), 0, 2, 2, -1⟩ : Ba), (⟨(⟨#[97]⟩ : ByteArray), true, (⟨#[]⟩ : ByteArray), 0, 1, 0, 0⟩ : Ba), (⟨(⟨#[97]⟩ : ByteArray), true, (⟨#[]⟩ : ByteArray), 1, 2, 0, 1⟩ : Ba)]
theorem sq_all1 : allF sqX sqK sqC sqT ⟨#[121, 122]⟩ = [⟨[0, 1]⟩] := by decide +kernel
theorem sq_all2 : allF sqX sqK sqC sqT ⟨#[122, 121]⟩ = [] := by decide +kernel
theorem Xdp {a : List Int} (h : a.length ≤ 2 ^ 60) : Ig a a true := by
 unfold Ig
 rw [if_pos rfl]
 refine Bo.cnt a.length (fun i hi => ?_) ?_
 ·unfold H5
  rw [if_pos (by omega)]
  refine ⟨⟨by omega, by omega⟩, ⟨by omega, by omega⟩, ?_⟩
  rw [if_pos rfl, Dw (by omega)]
 ·unfold H5
  rw [if_neg (Int.lt_irrefl _)]
theorem qstarted : Oc true := by
 refine ⟨_, sq_parse, ?_⟩
 dsimp only
 rw [if_pos rfl, if_pos rfl, if_pos (by decide)]
 unfold Gp
 have hw : Wf sqT := fun n hn => by
  rcases List.mem_cons.1 hn with rfl | hn
  ·exact ⟨by decide, by decide⟩
  rcases List.mem_cons.1 hn with rfl | hn
  ·exact ⟨by decide, by decide⟩
  ·rw [List.mem_singleton.1 hn]
   exact ⟨by decide, by decide⟩
 have hr : 0 ≤ numF sqT := by decide +kernel
 have a1 := Xh6 Xan sq_sz.w (t := sqT) (by decide) hw hr ⟨#[121, 122]⟩
 have a2 := Xh6 Xan sq_sz.w (t := sqT) (by decide) hw hr ⟨#[122, 121]⟩
 rw [sq_all1] at a1
 rw [sq_all2] at a2
 rw [if_neg (by decide)]
 refine ⟨_, a1, _, a2, _, Xi7 Xan sq_sz, ?_⟩
 rw [if_pos (by decide)]
 refine ⟨⟨by decide, by decide⟩, true, Xdp (a := [0, 1]) (by decide), ?_⟩
 rw [if_pos rfl, if_pos (by decide), if_pos rfl, sq_text, Om rfl]
end Go.Proofs.YtjookebbmfiidaaDoor.L
set_option linter.unusedVariables false
namespace Go.Proofs.YtjookebbmfiidaaDoor.L
open Go.Proofs.YtjookebbmfiidaaDoor.B Go.Proofs.YtjookebbmfiidaaDoor.R
end Go.Proofs.YtjookebbmfiidaaDoor.L
set_option linter.unusedVariables false
namespace Go.Proofs.YtjookebbmfiidaaDoor.L
open Go.Proofs.YtjookebbmfiidaaDoor.B Go.Proofs.YtjookebbmfiidaaDoor.R
end Go.Proofs.YtjookebbmfiidaaDoor.L
set_option linter.unusedVariables false
namespace Go.Proofs.YtjookebbmfiidaaDoor.L
open Go.Proofs.YtjookebbmfiidaaDoor.B Go.Proofs.YtjookebbmfiidaaDoor.R
theorem fm_split {β : Type} {f : Nat → Option β} {N i : Nat} {y : β} (hi : i < N) (h : f i = some y) : ∃ r, (List.range N).filterMap f = (List.range i).filterMap f ++ y :: r := by
 have e : List.range N = List.range i ++ i :: (List.range N).drop (i + 1) := by
  have h1 := (List.take_append_drop i (List.range N)).symm
  have h2 : (List.range N).drop i = (List.range N)[i]'(by rw [List.length_range]; exact hi) :: (List.range N).drop (i + 1) := List.drop_eq_getElem_cons _
  rw [h2, List.take_range, Nat.min_eq_left (Nat.le_of_lt hi), List.getElem_range] at h1
  exact h1
 refine ⟨((List.range N).drop (i + 1)).filterMap f, ?_⟩
 have := congrArg (List.filterMap f) e
 rw [List.filterMap_append, List.filterMap_cons, h] at this
 exact this
theorem Xlp {k : PF} (h : Bz k = []) : k = .nil := by
 cases k with
 | nil => rfl
 | cons x k s => simp [Bz] at h
def Xg7 (x : Ag) (n : Ba) : Bool := (decide (x.name = noB) || (decide (n.name = x.name) && (n.named == !x.lit))) && (decide (x.field = noB) || decide (n.field = x.field))
theorem Xk7 {x : Ag} (h : x.lit = true → x.name ≠ noB) (c : ByteArray) (j : Int) (n : Ba) : alone ⟨x.name, x.lit, x.field, c, j⟩ n = Xg7 x n := by
 unfold alone Xg7
 dsimp only
 have e1 : decide (x.field = n.field) = decide (n.field = x.field) := decide_eq_decide.2 ⟨Eq.symm, Eq.symm⟩
 rw [e1, Bool.and_comm]
 congr 1
 by_cases g : x.lit = true
 ·rw [if_pos g, decide_eq_false (h g), g, Bool.false_or, Bool.and_comm]
  cases n.named <;> simp
 ·have g' : x.lit = false := by simpa using g
  rw [if_neg g, g', Bool.and_comm n.named]
  cases n.named <;> simp
theorem Xfl {t : List Ba} {x : Ag} {r : List Dx} {n v : Int} {o : Sum (Int × Int) Bool} (hv : 0 ≤ v ∧ v < (t.length : Int)) (h : Ep n r v (Xg7 x (ix t v)) o) : En t x r n v o := by
 have hj : ∀ b : Bool, Ep n r v (b && (decide (x.field = noB) || decide ((ix t v).field = x.field))) o → F9 x n r v t b o := fun b hb => by
  unfold F9 Ht
  by_cases g : x.field = noB
  ·rw [if_pos g, if_neg (by simp)]
   rw [decide_eq_true g, Bool.true_or, Bool.and_true] at hb
   exact hb
  ·rw [if_neg g]
   refine ⟨hv, ?_⟩
   rw [decide_eq_false g, Bool.false_or, ← Sz] at hb
   cases e : seq (ix t v).field x.field with
   | true => rw [e, Bool.and_true] at hb; rw [if_neg (by simp)]; exact hb
   | false => rw [e, Bool.and_false] at hb; rw [if_pos (by simp)]; exact hb
 unfold Xg7 at h
 unfold En
 rw [if_pos hv.2]
 by_cases g : x.name = noB
 ·rw [if_pos g]
  rw [decide_eq_true g, Bool.true_or] at h
  exact hj _ h
 ·rw [if_neg g]
  rw [decide_eq_false g, Bool.false_or] at h
  refine ⟨hv, ?_⟩
  by_cases g2 : (ix t v).name = x.name
  ·rw [if_pos g2]
   rw [decide_eq_true g2, Bool.true_and] at h
   exact hj _ h
  ·rw [if_neg g2]
   rw [decide_eq_false g2, Bool.false_and] at h
   exact hj _ h
theorem Xlk {x : Ag} {t : List Ba} {s : ByteArray} {v : Nat} : X9 (x :: Bz .nil) [] t s x .nil v = if alone x (ix t (v : Int)) = true then some ⟨[(v : Int)]⟩ else none := by
 unfold X9 atN
 by_cases g : alone x (ix t (v : Int)) = true
 ·rw [if_pos g, if_pos g]
  rfl
 ·rw [if_neg g, if_neg g]
theorem Xlt {x : Ag} (hx : x.name.size ≤ 2 ^ 50 ∧ x.field.size ≤ 2 ^ 50) {t : List Ba} (hl : Xfg t) (hw : Wf t) (s : ByteArray) : Ku x t s true := by
 have hft := hl
 refine ⟨true, qstarted, ?_⟩
 rw [if_pos rfl]
 obtain ⟨b, hb⟩ := Xld hl hw
 refine ⟨b, hb, ?_⟩
 cases b with
 | true => rw [if_pos rfl]
 | false =>
 rw [if_neg (by simp)]
 have hz : SzR ⟨[⟨x.name, x.lit, x.field, noB, 0⟩], []⟩ := fun y hy => by
  rw [List.mem_singleton.1 hy]
  exact ⟨hx.1, hx.2, show noB.size ≤ 2 ^ 50 by decide⟩
 have hj : F8 [] t x true true := by
  unfold F8
  rw [if_pos rfl]
  rfl
 cases e : V8 ⟨[⟨x.name, x.lit, x.field, noB, 0⟩], []⟩ with
 | false =>
  refine ⟨_, all_no hz hl hw (.inl e) s, _, Ur hz, ?_⟩
  rw [e, if_neg (by simp)]
  exact hj
 | true =>
  obtain ⟨y, k, e1, e2⟩ := Xfq e
  dsimp only at e1 e2
  injection e1 with e1 e3
  have ek := Xlp e3.symm
  subst ek e1
  have hlit : x.lit = true → x.name ≠ noB := fun g => ((U5 e2.2.1).1 g).1
  by_cases hn : numF t < 0
  ·refine ⟨_, all_no hz hl hw (.inr hn) s, _, Ur hz, ?_⟩
   rw [e, if_pos rfl]
   refine ⟨_, Xcc hl hw, ?_⟩
   rw [decide_eq_true hn]
   exact hj
  ·refine ⟨_, Xh6 e2 hz hl hw (by omega) s, _, Ur hz, ?_⟩
   rw [e, if_pos rfl]
   refine ⟨_, Xcc hl hw, ?_⟩
   rw [decide_eq_false hn]
   unfold F8
   rw [if_neg (by simp)]
   generalize hF : X9 (⟨x.name, x.lit, x.field, noB, 0⟩ :: Bz .nil) [] t s ⟨x.name, x.lit, x.field, noB, 0⟩ .nil = F
   have hall : allF ⟨x.name, x.lit, x.field, noB, 0⟩ .nil [] t s = (List.range t.length).filterMap F := by rw [← hF]; rfl
   have hst : ∀ v : Nat, F v = if Xg7 x (ix t (v : Int)) = true then some ⟨[(v : Int)]⟩ else none := fun v => by
    rw [← hF, Xlk, Xk7 hlit]
   rw [hall]
   have hlen : ∀ i, ((List.range i).filterMap F).length ≤ i := fun i => by
    have := List.length_filterMap_le F (List.range i)
    rwa [List.length_range] at this
   have key : ∀ (d i : Nat), t.length - i = d → i ≤ t.length → Bo (fun (z : Int × Int) o => En t x ((List.range t.length).filterMap F) z.1 z.2 o) ((((List.range i).filterMap F).length : Int), (i : Int)) true := by
    intro d
    induction d with
    | zero =>
     intro i hd hi
     have : i = t.length := by omega
     subst this
     refine .done ?_
     dsimp only
     unfold En
     rw [if_neg (Int.lt_irrefl _)]
     simp
    | succ d ih =>
     intro i hd hi
     have hlt : i < t.length := by omega
     have hli := hlen i
     have hn := ih (i + 1) (by omega) (by omega)
     rw [List.range_succ, List.filterMap_append] at hn
     have ew : w64 ((i : Int) + 1) = ((i + 1 : Nat) : Int) := by rw [Dw (by omega)]; rfl
     have hi' := hst i
     cases g : Xg7 x (ix t (i : Int)) with
     | false =>
      rw [g, if_neg (by simp)] at hi'
      have e2 : List.filterMap F [i] = [] := by simp [hi']
      rw [e2, List.append_nil] at hn
      refine .next (Xfl ⟨by omega, by omega⟩ ?_) hn
      rw [g]
      unfold Ep
      rw [if_neg (by simp), ew]
     | true =>
      rw [g, if_pos rfl] at hi'
      have e2 : List.filterMap F [i] = [⟨[(i : Int)]⟩] := by simp [hi']
      rw [e2, List.length_append] at hn
      obtain ⟨r, hr⟩ := fm_split hlt hi'
      refine .next (Xfl ⟨by omega, by omega⟩ ?_) hn
      rw [g]
      unfold Ep
      have hlr := congrArg List.length hr
      rw [List.length_append, List.length_cons] at hlr
      have hix : ix ((List.range t.length).filterMap F) (((List.range i).filterMap F).length : Int) = ⟨[(i : Int)]⟩ := by
       rw [Y5 (by omega)]
       simp only [hr]
       rw [List.getElem_append_right (Nat.le_refl _)]
       simp
      rw [if_pos rfl, if_neg (by omega)]
      refine ⟨⟨by omega, by omega⟩, true, ?_, ?_⟩
      ·rw [hix]
       exact Xdp (by simp)
      ·unfold Hr
       rw [if_neg (by simp), ew, Dw (by omega)]
       rfl
   exact key t.length 0 rfl (Nat.zero_le _)
end Go.Proofs.YtjookebbmfiidaaDoor.L
