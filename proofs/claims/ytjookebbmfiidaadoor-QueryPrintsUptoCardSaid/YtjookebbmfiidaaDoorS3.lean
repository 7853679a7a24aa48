/- Queries: the plain parser's answers: shorter rests, fuel, what is read is good and has just these words. No condition. -/
import Derived.Test.YtjookebbmfiidaaDoorS1
set_option linter.unusedVariables false
namespace Go.Proofs.YtjookebbmfiidaaDoor.L
open Go.Proofs.YtjookebbmfiidaaDoor.R
def SndT (nm : ByteArray → Bool) (t : List Tk) : Prop := ∀ w ∈ t, w.1 = 1 → w.2 ≠ uscB → nm w.2 = true
theorem SndT.tl {nm : ByteArray → Bool} {t : List Tk} (h : SndT nm t) : SndT nm t.tail := fun w hw => h w (List.mem_of_mem_tail hw)
theorem SndT.app {nm : ByteArray → Bool} {a b : List Tk} (h : SndT nm (a ++ b)) : SndT nm b := fun w hw => h w (List.mem_append_right _ hw)
end Go.Proofs.YtjookebbmfiidaaDoor.L
set_option linter.unusedVariables false
namespace Go.Proofs.YtjookebbmfiidaaDoor.L
open Go.Proofs.YtjookebbmfiidaaDoor.R
abbrev whB : ByteArray := ⟨#[119, 104, 101, 110]⟩
abbrev unB : ByteArray := ⟨#[117, 110, 108, 101, 115, 115]⟩
def wordsC (c : api_Cond) : List Tk := (1, if c.not = true then unB else whB) :: (5, capB) :: (1, c.a) :: (5, eqB) :: (if c.b = noB then [(2, c.text)] else [(5, capB), (1, c.b)])
def goodC (caps : List ByteArray) (c : api_Cond) : Prop := c.a ∈ caps ∧ (c.b = noB ∨ (c.b ∈ caps ∧ c.text = noB))
def wordsQ (x : api_PatNode) (k : PF) (l : List api_Cond) : List Tk := wordsP (.cons x k .nil) ++ l.flatMap wordsC
def ShapedQ (nm : ByteArray → Bool) (x : api_PatNode) (k : PF) (l : List api_Cond) : Prop :=
 FitP (.cons x k .nil) ∧ goodP nm (.cons x k .nil) = true ∧ (capsP (.cons x k .nil) []).Nodup ∧ (flatP (.cons x k .nil)).length ≤ 32 ∧ l.length ≤ 16 ∧ ∀ c ∈ l, goodC (capsP (.cons x k .nil) []) c
end Go.Proofs.YtjookebbmfiidaaDoor.L
