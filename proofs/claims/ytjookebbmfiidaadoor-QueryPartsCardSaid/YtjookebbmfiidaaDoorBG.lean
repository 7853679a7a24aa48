/- The library's table of powers of ten, carried along; calls of the library by the kit's contracts. No condition. -/
import Derived.Test.YtjookebbmfiidaaDoorB9
import Derived.Lib.AppendIntMem
import Derived.Lib.LaidTab
import Derived.MakeChecks
set_option linter.unusedVariables false
namespace Go.Proofs.YtjookebbmfiidaaDoor.B
open Go.RowKit
abbrev p10 : String := "internal/strconv.uint64pow10"
def Tb (P:Program) (s:Cc):Prop:=(∀ g,P.globalNamed p10=some g→s.av g)∧Lib.TabIs P s.w p10 .u64 Lib.pow10Tab
theorem tab_keep {P:Program} {w w':World} (h:Lib.TabIs P w p10 .u64 Lib.pow10Tab) (hb:∀ g,P.globalNamed p10=some g→w'.heap[g]? = w.heap[g]?):Lib.TabIs P w' p10 .u64 Lib.pow10Tab:=by
 unfold Lib.TabIs World.var? at h ⊢
 cases hg:P.globalNamed p10 with
 | none=>rw [hg] at h; exact h
 | some g =>
  rw [hg] at h
  simp only [Option.bind_some] at h ⊢
  rw [hb g hg]
  exact h
theorem Loc.tb {P:Program} {w0 w:World} {M M0 rest:List Ent} {S:List Cc} {s:Cc} (hL:Loc w0 w M S) (hp:M.Perm (M0++rest)) (h:Tb P s) (hs:s ∈ S):Tb P (St w (M0.map Ent.blk)):=by
 obtain ⟨h1,h2⟩:=hL.snap s hs
 refine ⟨fun g hg=>?_,tab_keep h.2 fun g hg=>(h2 g (h.1 g hg)).1⟩
 have hav:=h.1 g hg
 refine ⟨Nat.lt_of_lt_of_le hav.1 h1,fun o ho e1=>?_,trivial⟩
 obtain ⟨e,he,rfl⟩:=List.mem_map.1 ho
 exact (h2 g hav).2 e (hp.mem_iff.2 (List.mem_append.2 (.inl he))) e1
theorem Loc.of_below {w w':World} (h:Below w.heap.size w w'):Loc w w' [] [St w []]:=⟨⟨h.os,h.tape,h.output,h.size⟩,by simp,by simp,fun s hs=>by
 obtain rfl:=List.mem_singleton.1 hs
 exact ⟨h.size,fun b hb=>⟨h.block b hb.1,by simp⟩⟩⟩
theorem Tb.start {P:Program} {w:World} (h:Lib.TabIs P w p10 .u64 Lib.pow10Tab):Tb P (St w []):=⟨fun g hg=>by
 refine ⟨?_,by simp,trivial⟩
 unfold Lib.TabIs World.var? at h
 rw [hg] at h
 simp only [Option.bind_some] at h
 rcases Nat.lt_or_ge g w.heap.size with h1 | h1
 ·exact h1
 ·rw [Array.getElem?_eq_none h1] at h; simp at h,h⟩
theorem Xdw {P : Program} {w : World} : ∀ {laid : List (String × DataW Unit)} {ps : List MemPlace}, DataW.LaidVars P w laid ps → ∀ {n : String} {d : DataW Unit}, (n, d) ∈ laid → ∃ g t cs fuel p, P.globalNamed n = some g ∧ (P.globals[g]?).map (·.type) = some t ∧ w.var? P n = some cs ∧ DataW.trod (fun _ => ()) P w 0 (fun _ => true) false fuel t cs.toList = some (d, p)
 | [],ps,h,n,d,hm=>by cases hm
 | (n0,d0) :: r,ps,h,n,d,hm=>by
  obtain ⟨g,t,cs,fuel,p,q,h1,h2,h3,h4,h5,_⟩:=h
  rcases List.mem_cons.1 hm with e | hm
  ·cases e; exact ⟨g,t,cs,fuel,p,h1,h2,h3,h4⟩
  ·exact Xdw h5 hm
theorem Xns {P:Program} {W:World} {laid a b:List (String × DataW Unit)} {name:String} {k:IntKind} {zs:List Int} {g:Nat} {t e:TypeId} {n:Nat}
  (hg:P.globalNamed name=some g) (hty:(P.globals[g]?).map (·.type)=some t) (ht:P.underlying t=some (.array n e)) (he:P.underlying e=some (.int k)) (hce:P.cellsOf e=1) (hct:P.cellsOf t=n)
  (hn:(laid.all fun x=>x.2.handleName?.isNone)=true) (hl:laid=a++(name,Lib.tabData k zs) :: b) (h:laidMetH P laid W):Lib.TabIs P W name k zs:=by
 rw [MakeChecks.laidMetH_plain _ _ _ hn] at h
 obtain ⟨ps,h1,_⟩:=h
 obtain ⟨g',t',cs,fuel,p,hg',ht',hvar,hd⟩:=Xdw h1 (n:=name) (d:=Lib.tabData k zs) (by rw [hl]; simp)
 obtain rfl:=Option.some.inj (hg.symm.trans hg')
 obtain rfl:=Option.some.inj (hty.symm.trans ht')
 unfold Lib.TabIs
 rw [hvar,← Lib.cells_of_tab ht he hce hct hd]
theorem Xnc {w:World} {a:Addr} {v:Value} (h:w.cell? a=some v):a.spot=none:=by
 unfold World.cell? at h
 split at h
 ·split at h
  ·cases h
  ·rename_i h1
   cases e:a.spot with
   | none=>rfl
   | some x=>rw [e] at h1; simp at h1
 ·cases h
theorem Xlg {P : Program} {f : FuncId} (hnone : ∀ (a : Option Addr) (c : Nat) (sep : ByteArray) (w : World), Calls P f #[.slice a 0 c, .string sep] w fun e w' => e = .returned (.string ⟨#[]⟩) ∧ w' = w)
  (hsome:∀ (bk o c:Nat) (xs:List ByteArray) (sep:ByteArray) (w:World),(∀ (j:Nat) x,xs[j]? = some x→w.cell? ⟨bk,o + j,none⟩=some (.string x))→bk < w.heap.size→xs.length≤140737488355328→xs.length≤c→(Lib.join (xs.map (·.data.toList)) sep.data.toList).length≤140737488355328 →
   Calls P f #[.slice (some ⟨bk,o,none⟩) xs.length c,.string sep] w fun e w'=>e=.returned (.string ⟨(Lib.join (xs.map (·.data.toList)) sep.data.toList).toArray⟩)∧Below w.heap.size w w')
  {w:World} {F:Nat→Prop} {A:Option Addr} {n c:Nat} {xs:List ByteArray} {sep:ByteArray} (hF:∀ b,F b→b < w.heap.size) (h:Rw kStr w F A n c xs) (h1:xs.length≤140737488355328) (h2:(Ym xs sep).size≤140737488355328) :
  Calls P f #[.slice A n c,.string sep] w fun e w'=>e=.returned (.string (Ym xs sep))∧Below w.heap.size w w':=by
 have h2:(Lib.join (xs.map (·.data.toList)) sep.data.toList).length≤140737488355328:=by
  have e:(Ym xs sep).size=(Lib.join (xs.map (·.data.toList)) sep.data.toList).length:=by simp [Ym,ByteArray.size]
  omega
 obtain ⟨hq,hn,hm,hr⟩:=h
 subst hq
 rcases Nat.eq_zero_or_pos xs.length with h0 | h0
 ·obtain rfl:=List.eq_nil_of_length_eq_zero h0
  refine (hnone A c sep w).mono ?_
  rintro e w' ⟨rfl,rfl⟩
  exact ⟨rfl,Below.refl _ _⟩
 ·obtain ⟨h3,h4⟩:=hr.1 h0
  obtain ⟨a,rfl⟩:=Option.isSome_iff_exists.1 h3
  have cel:∀ j x,xs[j]? = some x→w.cell? (a.add j)=some (.string x):=fun j x hj=>by
   obtain ⟨cs,h5,h6⟩:=hr.2 j x hj
   have h5:cs=[Value.string x]:=h5
   subst h5
   have:=h6 0 _ rfl
   have e:j * kStr.sz + 0=j:=Nat.mul_one j
   rw [e] at this
   exact this
  have hs:a.spot=none:=by
   have:=cel 0 _ (List.getElem?_eq_getElem h0)
   exact Xnc (by simpa [Addr.add] using this)
  obtain ⟨bk,o,sp⟩:=a
  simp only at hs
  subst hs
  refine (hsome bk o c xs sep w (fun j x hj=>?_) (hF _ h4) h1 hn h2)
  have:=cel j x hj
  unfold Addr.add at this
  split at this
  ·rename_i hj0; subst hj0; exact this
  ·exact this
theorem one_byte {t:ByteArray} (h:t.size=1):t=⟨#[t.data.toList.getD 0 0]⟩:=by
 obtain ⟨⟨l⟩⟩:=t
 match l,h with
 | [x],_=>rfl
 | [],h=>simp [ByteArray.size] at h
 | x :: y :: r,h=>simp [ByteArray.size] at h
end Go.Proofs.YtjookebbmfiidaaDoor.B
