/- The library's table of powers of ten, carried along; calls of the library by the kit's contracts. No condition. -/
import Derived.Test.YtadcichlnacagaaDoorB9
import Derived.Lib.AppendIntMem
import Derived.Lib.LaidTab
import Derived.MakeChecks
set_option linter.unusedVariables false
namespace Go.Proofs.YtadcichlnacagaaDoor.B
open Go.RowKit
abbrev p10 : String := "internal/strconv.uint64pow10"
def Tb (P:Program) (s:Yva):Prop:=(∀ g,P.globalNamed p10=some g→s.av g)∧Lib.TabIs P s.w p10 .u64 Lib.pow10Tab
theorem Tb.start {P:Program} {w:World} (h:Lib.TabIs P w p10 .u64 Lib.pow10Tab):Tb P (St w []):=⟨fun g hg=>by
 refine ⟨?_,by simp,trivial⟩
 unfold Lib.TabIs World.var? at h
 rw [hg] at h
 simp only [Option.bind_some] at h
 rcases Nat.lt_or_ge g w.heap.size with h1 | h1
 ·exact h1
 ·rw [Array.getElem?_eq_none h1] at h; simp at h,h⟩
theorem Zl6 {P : Program} {w : World} : ∀ {laid : List (String × DataW Unit)} {ps : List MemPlace}, DataW.LaidVars P w laid ps → ∀ {n : String} {d : DataW Unit}, (n, d) ∈ laid → ∃ g t cs fuel p, P.globalNamed n = some g ∧ (P.globals[g]?).map (·.type) = some t ∧ w.var? P n = some cs ∧ DataW.trod (fun _ => ()) P w 0 (fun _ => true) false fuel t cs.toList = some (d, p)
 | [],ps,h,n,d,hm=>by cases hm
 | (n0,d0) :: r,ps,h,n,d,hm=>by
  obtain ⟨g,t,cs,fuel,p,q,h1,h2,h3,h4,h5,_⟩:=h
  rcases List.mem_cons.1 hm with e | hm
  ·cases e; exact ⟨g,t,cs,fuel,p,h1,h2,h3,h4⟩
  ·exact Zl6 h5 hm
theorem Zt7 {P:Program} {W:World} {laid a b:List (String × DataW Unit)} {name:String} {k:IntKind} {zs:List Int} {g:Nat} {t e:TypeId} {n:Nat}
  (hg:P.globalNamed name=some g) (hty:(P.globals[g]?).map (·.type)=some t) (ht:P.underlying t=some (.array n e)) (he:P.underlying e=some (.int k)) (hce:P.cellsOf e=1) (hct:P.cellsOf t=n)
  (hn:(laid.all fun x=>x.2.handleName?.isNone)=true) (hl:laid=a++(name,Lib.tabData k zs) :: b) (h:laidMetH P laid W):Lib.TabIs P W name k zs:=by
 rw [MakeChecks.laidMetH_plain _ _ _ hn] at h
 obtain ⟨ps,h1,_⟩:=h
 obtain ⟨g',t',cs,fuel,p,hg',ht',hvar,hd⟩:=Zl6 h1 (n:=name) (d:=Lib.tabData k zs) (by rw [hl]; simp)
 obtain rfl:=Option.some.inj (hg.symm.trans hg')
 obtain rfl:=Option.some.inj (hty.symm.trans ht')
 unfold Lib.TabIs
 rw [hvar,← Lib.cells_of_tab ht he hce hct hd]
end Go.Proofs.YtadcichlnacagaaDoor.B
