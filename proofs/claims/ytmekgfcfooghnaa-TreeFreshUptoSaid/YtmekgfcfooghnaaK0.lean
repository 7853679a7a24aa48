/- The kinds of this seat's values and closed facts on its types, printed by my own tool. No condition. -/
import Derived.Test.YtmekgfcfooghnaaBE
import Derived.Test.YtmekgfcfooghnaaBT
import Derived.Test.YtmekgfcfooghnaaR
import Derived.Test.YtmekgfcfooghnaaProg
set_option linter.unusedVariables false
set_option maxRecDepth 100000
set_option maxHeartbeats 4000000
namespace Go.Proofs.Ytmekgfcfooghnaa.K
open Go.Proofs.Ytmekgfcfooghnaa.B Go.Proofs.Ytmekgfcfooghnaa.R Go.RowKit
def Xmd (x:Xm4):List Value:=[.string x.name,.bool x.named,.string x.field,.int .i64 x.from_,.int .i64 x.to,.int .i64 x.kids,.int .i64 x.leaf]
theorem Xn7:∀ x,(Xmd x).length=7:=fun _=>rfl
theorem Xny:∀ x,∀ u ∈ Xmd x,u.oneCell'=true:=fun x u hu=>List.all_eq_true.1 (show (Xmd x).all Value.oneCell'=true from rfl) u hu
abbrev Xml:Kd Xm4:=Kd.flat 7 Xmd Xn7 Xny
def Xqm:Nat→Kd Xm7
  | 0=>{ sz:=9,K:=fun _ _ _ _=>False,len:=fun h=>h.elim,one:=fun h=>h.elim,mono:=fun h=>h.elim }
  | m + 1=>{ sz:=9,K:=(fun w F x cs=>∃ (A0:Option Addr),∃ (n0:Nat),∃ (c0:Nat),cs=[.string x.node.name,.bool x.node.named,.string x.node.field,.int .i64 x.node.from_,.int .i64 x.node.to,.int .i64 x.node.kids,.int .i64 x.node.leaf,.slice A0 n0 c0,.int .i64 x.at_]∧Rw (Xqm m) w F A0 n0 c0 x.kids),len:=(by rintro w F x cs ⟨_,_,_,rfl,_⟩; rfl),one:=(by rintro w F x cs ⟨_,_,_,rfl,_⟩; exact fun u hu=>List.all_eq_true.1 rfl u hu),mono:=(by rintro w w' F F' x cs ⟨_,_,_,rfl,h0⟩ hF; exact ⟨_,_,_,rfl,h0.mono hF⟩) }
theorem Xwv (m:Nat):∀ {w F x cs},(Xqm m).K w F x cs→(Xqm (m + 1)).K w F x cs:=by
  induction m with
  | zero=>exact fun h=>h.elim
  | succ m ih=>rintro w F x cs ⟨_,_,_,rfl,h0⟩; exact ⟨_,_,_,rfl,Rw.up (by cases m <;> rfl) (fun h=>ih h) h0⟩
theorem Xs4 (m:Nat):(Xqm m).sz=9:=by cases m <;> rfl
def Xme:Kd Xm7:=Kd.union 9 Xqm Xs4
theorem Xo9 {w:World} {F:Nat→Prop} {x:Xm7} {cs:List Value} (h:(Xme).K w F x cs):∃ (A0:Option Addr),∃ (n0:Nat),∃ (c0:Nat),cs=[.string x.node.name,.bool x.node.named,.string x.node.field,.int .i64 x.node.from_,.int .i64 x.node.to,.int .i64 x.node.kids,.int .i64 x.node.leaf,.slice A0 n0 c0,.int .i64 x.at_]∧Rw Xme w F A0 n0 c0 x.kids:=by
  obtain ⟨m,h⟩:=h
  cases m with
  | zero=>exact h.elim
  | succ m =>
    obtain ⟨_,_,_,rfl,h0⟩:=h
    exact ⟨_,_,_,rfl,Rw.up (Xs4 m).symm (fun h=>⟨m,h⟩) h0⟩
theorem Xoq {w:World} {F:Nat→Prop} {x:Xm7} {cs:List Value} (h:∃ (A0:Option Addr),∃ (n0:Nat),∃ (c0:Nat),cs=[.string x.node.name,.bool x.node.named,.string x.node.field,.int .i64 x.node.from_,.int .i64 x.node.to,.int .i64 x.node.kids,.int .i64 x.node.leaf,.slice A0 n0 c0,.int .i64 x.at_]∧Rw Xme w F A0 n0 c0 x.kids):(Xme).K w F x cs:=by
  obtain ⟨_,_,_,rfl,h0⟩:=h
  obtain ⟨m,h'⟩:=Rw.level Xs4 Xwv h0
  exact ⟨m + 1,_,_,_,rfl,h'⟩
def Xtt (x:Xps):List Value:=[.string x.name,.bool x.open_]
theorem Ycw:∀ x,(Xtt x).length=2:=fun _=>rfl
theorem Ycv:∀ x,∀ u ∈ Xtt x,u.oneCell'=true:=fun x u hu=>List.all_eq_true.1 (show (Xtt x).all Value.oneCell'=true from rfl) u hu
abbrev Xqh:Kd Xps:=Kd.flat 2 Xtt Ycw Ycv
def Xsg (x:Xna):List Value:=[.string x.name,.bool x.lit]
theorem Xs1:∀ x,(Xsg x).length=2:=fun _=>rfl
theorem Xs6:∀ x,∀ u ∈ Xsg x,u.oneCell'=true:=fun x u hu=>List.all_eq_true.1 (show (Xsg x).all Value.oneCell'=true from rfl) u hu
abbrev Xnt:Kd Xna:=Kd.flat 2 Xsg Xs1 Xs6
def Xus (x:Xq9):List Value:=[.string x.name,.int .i64 x.kind]
theorem Xtv:∀ x,(Xus x).length=2:=fun _=>rfl
theorem Xtw:∀ x,∀ u ∈ Xus x,u.oneCell'=true:=fun x u hu=>List.all_eq_true.1 (show (Xus x).all Value.oneCell'=true from rfl) u hu
abbrev Xpk:Kd Xq9:=Kd.flat 2 Xus Xtv Xtw
def Xw9 (x:Xn1):List Value:=[.int .i64 x.sym,.string x.field,.string x.as]
theorem Xz7:∀ x,(Xw9 x).length=3:=fun _=>rfl
theorem Xzc:∀ x,∀ u ∈ Xw9 x,u.oneCell'=true:=fun x u hu=>List.all_eq_true.1 (show (Xw9 x).all Value.oneCell'=true from rfl) u hu
abbrev Xx6:Kd Xn1:=Kd.flat 3 Xw9 Xz7 Xzc
def Xos:Kd Xnz:={ sz:=2,K:=(fun w F x cs=>∃ (A0:Option Addr),∃ (n0:Nat),∃ (c0:Nat),cs=[.int .i64 x.lhs,.slice A0 n0 c0]∧Rw Xx6 w F A0 n0 c0 x.rhs),len:=(by rintro w F x cs ⟨_,_,_,rfl,_⟩; rfl),one:=(by rintro w F x cs ⟨_,_,_,rfl,_⟩; exact fun u hu=>List.all_eq_true.1 rfl u hu),mono:=(by rintro w w' F F' x cs ⟨_,_,_,rfl,h0⟩ hF; exact ⟨_,_,_,rfl,h0.mono hF⟩) }
def Yg5:Kd Xnn:={ sz:=3,K:=(fun w F x cs=>∃ (A0:Option Addr),∃ (n0:Nat),∃ (c0:Nat),∃ (A1:Option Addr),∃ (n1:Nat),∃ (c1:Nat),∃ (A2:Option Addr),∃ (n2:Nat),∃ (c2:Nat),cs=[.slice A0 n0 c0,.slice A1 n1 c1,.slice A2 n2 c2]∧Rw Xnt w F A0 n0 c0 x.terms∧Rw Xpk w F A1 n1 c1 x.syms∧Rw Xos w F A2 n2 c2 x.prods),len:=(by rintro w F x cs ⟨_,_,_,_,_,_,_,_,_,rfl,_⟩; rfl),one:=(by rintro w F x cs ⟨_,_,_,_,_,_,_,_,_,rfl,_⟩; exact fun u hu=>List.all_eq_true.1 rfl u hu),mono:=(by rintro w w' F F' x cs ⟨_,_,_,_,_,_,_,_,_,rfl,h0,h1,h2⟩ hF; exact ⟨_,_,_,_,_,_,_,_,_,rfl,h0.mono hF,h1.mono hF,h2.mono hF⟩) }
def Xs8 (x:Xrq):List Value:=[.int .i64 x.op]++((Xwo 4 fun j=>[.int .u64 (x.set_ j)])++([.int .i64 x.a]++([.int .i64 x.b])))
theorem Ydc (x:Xrq):(Xs8 x).length=7:=by
  unfold Xs8
  have e0:([.int .i64 x.op]:List Value).length=1:=rfl
  have e1:((Xwo 4 fun j=>[.int .u64 (x.set_ j)]):List Value).length=4:=(Xzt (sz:=1) (f:=fun j=>[.int .u64 (x.set_ j)]) (fun j=>rfl) 4)
  have e2:([.int .i64 x.a]:List Value).length=1:=rfl
  have e3:([.int .i64 x.b]:List Value).length=1:=rfl
  simp only [List.length_append,e0,e1,e2,e3]
theorem Yda (x:Xrq):(Xs8 x).all Value.oneCell'=true:=by
  unfold Xs8
  simp only [List.all_append,Bool.and_eq_true]
  exact ⟨rfl,(Yf7 (f:=fun j=>[.int .u64 (x.set_ j)]) (fun j=>rfl) 4),rfl,rfl⟩
theorem Ydd:∀ x,∀ u ∈ Xs8 x,u.oneCell'=true:=fun x u hu=>List.all_eq_true.1 (Yda x) u hu
abbrev Xx9:Kd Xrq:=Kd.flat 7 Xs8 Ydc Ydd
def Xvd (x:Xuo):List Value:=[.int .i64 x.kind,.int .i64 x.n]
theorem Yg2:∀ x,(Xvd x).length=2:=fun _=>rfl
theorem Yfc:∀ x,∀ u ∈ Xvd x,u.oneCell'=true:=fun x u hu=>List.all_eq_true.1 (show (Xvd x).all Value.oneCell'=true from rfl) u hu
abbrev Xz0:Kd Xuo:=Kd.flat 2 Xvd Yg2 Yfc
def Xvz (x:Xwa):List Value:=[.int .i64 x.kind,.int .i64 x.n,.int .i64 x.m]
theorem Ygk:∀ x,(Xvz x).length=3:=fun _=>rfl
theorem Ygi:∀ x,∀ u ∈ Xvz x,u.oneCell'=true:=fun x u hu=>List.all_eq_true.1 (show (Xvz x).all Value.oneCell'=true from rfl) u hu
abbrev Yb2:Kd Xwa:=Kd.flat 3 Xvz Ygk Ygi
def Xsf:Kd Xsk:={ sz:=7,K:=(fun w F x cs=>∃ (A0:Option Addr),∃ (n0:Nat),∃ (c0:Nat),∃ (A1:Option Addr),∃ (n1:Nat),∃ (c1:Nat),∃ (A2:Option Addr),∃ (n2:Nat),∃ (c2:Nat),∃ (A3:Option Addr),∃ (n3:Nat),∃ (c3:Nat),cs=[.int .i64 x.term,.int .i64 x.pat,.slice A0 n0 c0,.string x.lit,.slice A1 n1 c1,.slice A2 n2 c2,.slice A3 n3 c3]∧Rw Xx9 w F A0 n0 c0 x.re∧Rw (Xsu .i64) w F A1 n1 c1 x.in_∧Rw Xz0 w F A2 n2 c2 x.tests∧Rw Yb2 w F A3 n3 c3 x.acts),len:=(by rintro w F x cs ⟨_,_,_,_,_,_,_,_,_,_,_,_,rfl,_⟩; rfl),one:=(by rintro w F x cs ⟨_,_,_,_,_,_,_,_,_,_,_,_,rfl,_⟩; exact fun u hu=>List.all_eq_true.1 rfl u hu),mono:=(by rintro w w' F F' x cs ⟨_,_,_,_,_,_,_,_,_,_,_,_,rfl,h0,h1,h2,h3⟩ hF; exact ⟨_,_,_,_,_,_,_,_,_,_,_,_,rfl,h0.mono hF,h1.mono hF,h2.mono hF,h3.mono hF⟩) }
def Xu3 (x:Xoi):List Value:=[.int .i64 x.kind,.int .i64 x.n]
theorem Ydb:∀ x,(Xu3 x).length=2:=fun _=>rfl
theorem Yd9:∀ x,∀ u ∈ Xu3 x,u.oneCell'=true:=fun x u hu=>List.all_eq_true.1 (show (Xu3 x).all Value.oneCell'=true from rfl) u hu
abbrev Xq1:Kd Xoi:=Kd.flat 2 Xu3 Ydb Yd9
def Yfj:Kd Xtb:={ sz:=2,K:=(fun w F x cs=>∃ (A0:Option Addr),∃ (n0:Nat),∃ (c0:Nat),∃ (A1:Option Addr),∃ (n1:Nat),∃ (c1:Nat),cs=[.slice A0 n0 c0,.slice A1 n1 c1]∧Rw (Kd.slice Xq1) w F A0 n0 c0 x.actions∧Rw (Kd.slice (Xsu .i64)) w F A1 n1 c1 x.gotos),len:=(by rintro w F x cs ⟨_,_,_,_,_,_,rfl,_⟩; rfl),one:=(by rintro w F x cs ⟨_,_,_,_,_,_,rfl,_⟩; exact fun u hu=>List.all_eq_true.1 rfl u hu),mono:=(by rintro w w' F F' x cs ⟨_,_,_,_,_,_,rfl,h0,h1⟩ hF; exact ⟨_,_,_,_,_,_,rfl,h0.mono hF,h1.mono hF⟩) }
def Xt3 (x:Xpe):List Value:=[.string x.name,.string x.class_]
theorem Ybg:∀ x,(Xt3 x).length=2:=fun _=>rfl
theorem Ybi:∀ x,∀ u ∈ Xt3 x,u.oneCell'=true:=fun x u hu=>List.all_eq_true.1 (show (Xt3 x).all Value.oneCell'=true from rfl) u hu
abbrev Xq2:Kd Xpe:=Kd.flat 2 Xt3 Ybg Ybi
def Xtq (x:Xpu):List Value:=[.string x.name,.string x.field]
theorem Yca:∀ x,(Xtq x).length=2:=fun _=>rfl
theorem Ycg:∀ x,∀ u ∈ Xtq x,u.oneCell'=true:=fun x u hu=>List.all_eq_true.1 (show (Xtq x).all Value.oneCell'=true from rfl) u hu
abbrev Xqi:Kd Xpu:=Kd.flat 2 Xtq Yca Ycg
def Xsp (x:Xow):List Value:=[.string x.name,.string x.lang]
theorem Yai:∀ x,(Xsp x).length=2:=fun _=>rfl
theorem Yal:∀ x,∀ u ∈ Xsp x,u.oneCell'=true:=fun x u hu=>List.all_eq_true.1 (show (Xsp x).all Value.oneCell'=true from rfl) u hu
abbrev Xpp:Kd Xow:=Kd.flat 2 Xsp Yai Yal
def Ygc:Kd Xmw:={ sz:=12,K:=(fun w F x cs=>∃ (A0:Option Addr),∃ (n0:Nat),∃ (c0:Nat),∃ (A1:Option Addr),∃ (n1:Nat),∃ (c1:Nat),∃ (A2:Option Addr),∃ (n2:Nat),∃ (c2:Nat),∃ (A3:Option Addr),∃ (n3:Nat),∃ (c3:Nat),∃ (A4:Option Addr),∃ (n4:Nat),∃ (c4:Nat),∃ (A5:Option Addr),∃ (n5:Nat),∃ (c5:Nat),∃ (A6:Option Addr),∃ (n6:Nat),∃ (c6:Nat),∃ (A7:Option Addr),∃ (n7:Nat),∃ (c7:Nat),∃ (A8:Option Addr),∃ (n8:Nat),∃ (c8:Nat),∃ (A9:Option Addr),∃ (n9:Nat),∃ (c9:Nat),∃ (A10:Option Addr),∃ (n10:Nat),∃ (c10:Nat),cs=[.string x.name,.slice A0 n0 c0,.slice A1 n1 c1,.slice A2 n2 c2,.slice A3 n3 c3,.slice A4 n4 c4,.slice A5 n5 c5,.slice A6 n6 c6,.slice A7 n7 c7,.slice A8 n8 c8,.slice A9 n9 c9,.slice A10 n10 c10]∧Rw Xqh w F A0 n0 c0 x.modes∧Rw Xnt w F A1 n1 c1 x.gram.terms∧Rw Xpk w F A2 n2 c2 x.gram.syms∧Rw Xos w F A3 n3 c3 x.gram.prods∧Rw Xsf w F A4 n4 c4 x.rules∧Rw (Kd.slice Xq1) w F A5 n5 c5 x.table.actions∧Rw (Kd.slice (Xsu .i64)) w F A6 n6 c6 x.table.gotos∧Rw Xq2 w F A7 n7 c7 x.paints∧Rw Ybz w F A8 n8 c8 x.folds∧Rw Xqi w F A9 n9 c9 x.marks∧Rw Xpp w F A10 n10 c10 x.injects),len:=(by rintro w F x cs ⟨_,_,_,_,_,_,_,_,_,_,_,_,_,_,_,_,_,_,_,_,_,_,_,_,_,_,_,_,_,_,_,_,_,rfl,_⟩; rfl),one:=(by rintro w F x cs ⟨_,_,_,_,_,_,_,_,_,_,_,_,_,_,_,_,_,_,_,_,_,_,_,_,_,_,_,_,_,_,_,_,_,rfl,_⟩; exact fun u hu=>List.all_eq_true.1 rfl u hu),mono:=(by rintro w w' F F' x cs ⟨_,_,_,_,_,_,_,_,_,_,_,_,_,_,_,_,_,_,_,_,_,_,_,_,_,_,_,_,_,_,_,_,_,rfl,h0,h1,h2,h3,h4,h5,h6,h7,h8,h9,h10⟩ hF; exact ⟨_,_,_,_,_,_,_,_,_,_,_,_,_,_,_,_,_,_,_,_,_,_,_,_,_,_,_,_,_,_,_,_,_,rfl,h0.mono hF,h1.mono hF,h2.mono hF,h3.mono hF,h4.mono hF,h5.mono hF,h6.mono hF,h7.mono hF,h8.mono hF,h9.mono hF,h10.mono hF⟩) }
theorem Yen (x y:Xm4):Ycd (Xmd x).toArray (Xmd y).toArray [(0,2),(1,0),(2,2),(3,1),(4,1),(5,1),(6,1)]=some (decide (x=y)):=by
  cases x; cases y; refine congrArg some ?_; rw [Bool.eq_iff_iff]; simp [Yh7]
abbrev Xni:Fk (List Xm4):={ α:=Xm4,inn:=fun x=>x,enc:=Xmd,e:=39,sz:=7,so:=1,cl:=fun x d=>[.slice d.A d.n d.c],hl:=Xn7,h1:=Xny,hcl:=fun _ _=>rfl,inj:=fun x d d' h=>by cases d; cases d'; simpa using h }
theorem mix:Try.prog.follows .mixedOrders=true:=by kernel_rfl
theorem Xum:Try.prog.underlying 22=some (.slice 39):=by kernel_rfl
theorem Xrh:Try.prog.underlying 23=some (.slice 3):=by kernel_rfl
theorem Xrr:slE Try.prog 22=some (39,7):=by kernel_rfl
theorem Xt8:Xtk Try.prog 39 5=some 5:=by kernel_rfl
theorem Xqt:ldK Try.prog 3=some none:=by kernel_rfl
theorem Xve:Xzi Try.prog 23 1=some (3,1,#[.int .i64 0]):=by kernel_rfl
theorem Xyx:apK Try.prog 23=some (3,1,8):=by kernel_rfl
theorem Xq8:slE Try.prog 23=some (3,1):=by kernel_rfl
theorem Yd0:szK Try.prog 3=some 1:=by kernel_rfl
theorem Yb7:apK Try.prog 22=some (39,7,72):=by kernel_rfl
theorem Yf5:bld Try.prog 39=some (#[.string (⟨#[]⟩:ByteArray),.bool false,.string (⟨#[]⟩:ByteArray),.int .i64 0,.int .i64 0,.int .i64 0,.int .i64 0],[(0,1),(1,1),(2,1),(3,1),(4,1),(5,1),(6,1)]):=by kernel_rfl
theorem Xzk:zrK Try.prog 32=some [.slice none 0 0,.slice none 0 0,.slice none 0 0,.bool false]:=by kernel_rfl
theorem Xyz:mkK Try.prog 23=some (3,[.int .i64 0],8):=by kernel_rfl
theorem Yds:bld Try.prog 32=some (#[.slice none 0 0,.slice none 0 0,.slice none 0 0,.bool false],[(0,1),(1,1),(2,1),(3,1)]):=by kernel_rfl
theorem Xy9:szK Try.prog 32=some 4:=by kernel_rfl
theorem Xyc:ldK Try.prog 39=some (some 7):=by kernel_rfl
theorem Yf0:zrK Try.prog 39=some [.string (⟨#[]⟩:ByteArray),.bool false,.string (⟨#[]⟩:ByteArray),.int .i64 0,.int .i64 0,.int .i64 0,.int .i64 0]:=by kernel_rfl
theorem Ydr:szK Try.prog 39=some 7:=by kernel_rfl
theorem Yhe:Xtk Try.prog 32 1=some 1:=by kernel_rfl
theorem Ye2:ldK Try.prog 23=some none:=by kernel_rfl
theorem Yd8:ldK Try.prog 32=some (some 4):=by kernel_rfl
theorem Ybp:Xtk Try.prog 32 2=some 2:=by kernel_rfl
theorem Ybl:Xtk Try.prog 32 3=some 3:=by kernel_rfl
theorem sz_4:szK Try.prog 4=some 1:=by kernel_rfl
theorem ld_4:ldK Try.prog 4=some none:=by kernel_rfl
theorem fo_32_0:Xtk Try.prog 32 0=some 0:=by kernel_rfl
theorem Xw3:ldK Try.prog 22=some none:=by kernel_rfl
theorem Ya6:zrK Try.prog 96=some [.string (⟨#[]⟩:ByteArray),.bool false,.string (⟨#[]⟩:ByteArray),.int .i64 0,.int .i64 0,.int .i64 0,.int .i64 0,.slice none 0 0,.int .i64 0]:=by kernel_rfl
theorem Yf4:bld Try.prog 96=some (#[.string (⟨#[]⟩:ByteArray),.bool false,.string (⟨#[]⟩:ByteArray),.int .i64 0,.int .i64 0,.int .i64 0,.int .i64 0,.slice none 0 0,.int .i64 0],[(0,7),(7,1),(8,1)]):=by kernel_rfl
theorem Xxs:szK Try.prog 96=some 9:=by kernel_rfl
theorem Ybv:Xtk Try.prog 96 1=some 7:=by kernel_rfl
theorem ld_89:ldK Try.prog 89=some none:=by kernel_rfl
theorem Xx7:ldK Try.prog 96=some (some 9):=by kernel_rfl
theorem Xyo:Xzi Try.prog 89 1=some (96,9,#[.string (⟨#[]⟩:ByteArray),.bool false,.string (⟨#[]⟩:ByteArray),.int .i64 0,.int .i64 0,.int .i64 0,.int .i64 0,.slice none 0 0,.int .i64 0]):=by kernel_rfl
theorem Ydf:apK Try.prog 89=some (96,9,104):=by kernel_rfl
theorem sz_89:szK Try.prog 89=some 1:=by kernel_rfl
theorem Ydh:Try.prog.underlying 89=some (.slice 96):=by kernel_rfl
theorem eq_39:eqK Try.prog 39=some [(0,2),(1,0),(2,2),(3,1),(4,1),(5,1),(6,1)]:=by kernel_rfl
theorem Xy3:slE Try.prog 89=some (96,9):=by kernel_rfl
theorem Ya5:Try.prog.underlying 59=some (.slice 22):=by kernel_rfl
theorem Xug:slE Try.prog 59=some (22,1):=by kernel_rfl
theorem Xry:Xtk Try.prog 58 2=some 2:=by kernel_rfl
theorem Xtr:Xtk Try.prog 47 0=some 0:=by kernel_rfl
theorem Xxr:ldK Try.prog 43=some none:=by kernel_rfl
theorem Yc1:Try.prog.underlying 43=some (.slice 100):=by kernel_rfl
theorem Yd1:slE Try.prog 43=some (100,2):=by kernel_rfl
theorem ld_100:ldK Try.prog 100=some (some 2):=by kernel_rfl
theorem zr_100:zrK Try.prog 100=some [.string (⟨#[]⟩:ByteArray),.bool false]:=by kernel_rfl
theorem sz_100:szK Try.prog 100=some 2:=by kernel_rfl
theorem Ycb:Xtk Try.prog 100 0=some 0:=by kernel_rfl
theorem Xwi:ldK Try.prog 9=some none:=by kernel_rfl
theorem Yct:Xtk Try.prog 100 1=some 1:=by kernel_rfl
theorem Ya0:Xzi Try.prog 22 1=some (39,7,#[.string (⟨#[]⟩:ByteArray),.bool false,.string (⟨#[]⟩:ByteArray),.int .i64 0,.int .i64 0,.int .i64 0,.int .i64 0]):=by kernel_rfl
theorem Xuj:Xtk Try.prog 47 1=some 1:=by kernel_rfl
theorem Xyw:ldK Try.prog 44=some none:=by kernel_rfl
theorem un_44:Try.prog.underlying 44=some (.slice 74):=by kernel_rfl
theorem Yae:slE Try.prog 44=some (74,2):=by kernel_rfl
theorem Ybr:Xtk Try.prog 74 1=some 1:=by kernel_rfl
theorem ld_72:ldK Try.prog 72=some none:=by kernel_rfl
theorem Yak:Try.prog.underlying 9=some (.string):=by kernel_rfl
theorem Xxc:Xtk Try.prog 96 0=some 0:=by kernel_rfl
theorem Xzy:Xtk Try.prog 39 3=some 3:=by kernel_rfl
theorem Xzx:Xtk Try.prog 39 4=some 4:=by kernel_rfl
theorem Ycu:ldK Try.prog 47=some (some 3):=by kernel_rfl
theorem Xxy:Xtk Try.prog 104 0=some 0:=by kernel_rfl
theorem Xur:Xtk Try.prog 104 2=some 2:=by kernel_rfl
theorem Ybs:Xtk Try.prog 39 0=some 0:=by kernel_rfl
theorem sz_9:szK Try.prog 9=some 1:=by kernel_rfl
theorem Ybu:Xtk Try.prog 39 1=some 1:=by kernel_rfl
theorem Xyd:Xtk Try.prog 39 2=some 2:=by kernel_rfl
theorem Yfv:Xtk Try.prog 104 1=some 1:=by kernel_rfl
theorem Ybm:Xtk Try.prog 47 2=some 2:=by kernel_rfl
theorem ld_45:ldK Try.prog 45=some none:=by kernel_rfl
theorem un_45:Try.prog.underlying 45=some (.slice 107):=by kernel_rfl
theorem slE_45:slE Try.prog 45=some (107,2):=by kernel_rfl
theorem ld_107:ldK Try.prog 107=some (some 2):=by kernel_rfl
theorem zr_107:zrK Try.prog 107=some [.int .i64 0,.slice none 0 0]:=by kernel_rfl
theorem sz_107:szK Try.prog 107=some 2:=by kernel_rfl
theorem Xu4:Xtk Try.prog 107 1=some 1:=by kernel_rfl
theorem Xxh:ldK Try.prog 105=some none:=by kernel_rfl
theorem Xy5:Try.prog.underlying 105=some (.slice 104):=by kernel_rfl
theorem Yhf:slE Try.prog 105=some (104,3):=by kernel_rfl
theorem Ygn:ldK Try.prog 104=some (some 3):=by kernel_rfl
theorem Xuw:Xtk Try.prog 107 0=some 0:=by kernel_rfl
theorem Yh9:Xtk Try.prog 74 0=some 0:=by kernel_rfl
theorem fd_32_3:fdK Try.prog 32 3=some (3,none):=by kernel_rfl
theorem bs_22_0:Xzi Try.prog 22 0=some (39,7,#[]):=by kernel_rfl
theorem Xxu:ldK Try.prog 58=some (some 12):=by kernel_rfl
theorem zr_104:zrK Try.prog 104=some [.int .i64 0,.string (⟨#[]⟩:ByteArray),.string (⟨#[]⟩:ByteArray)]:=by kernel_rfl
theorem sz_104:szK Try.prog 104=some 3:=by kernel_rfl
theorem Xzq:Xzi Try.prog 59 1=some (22,1,#[.slice none 0 0]):=by kernel_rfl
theorem ap_59:apK Try.prog 59=some (22,1,24):=by kernel_rfl
theorem bs_23_2:Xzi Try.prog 23 2=some (3,1,#[.int .i64 0,.int .i64 0]):=by kernel_rfl
theorem Yck:Xtk Try.prog 123 0=some 0:=by kernel_rfl
theorem ld_120:ldK Try.prog 120=some none:=by kernel_rfl
theorem un_120:Try.prog.underlying 120=some (.pointer 123):=by kernel_rfl
theorem pt_120:ptK Try.prog 120=true:=by kernel_rfl
theorem un_136:Try.prog.underlying 136=some .unsafePointer:=by kernel_rfl
theorem Yeo:lieK Try.prog 120 123 2 0=true:=by kernel_rfl
theorem sz_120:szK Try.prog 120=some 1:=by kernel_rfl
theorem Xwq:Xtk Try.prog 123 1=some 1:=by kernel_rfl
theorem Yed:ldK Try.prog 121=some none:=by kernel_rfl
theorem bs_121_1:Xzi Try.prog 121 1=some (5,1,#[.int .u8 0]):=by kernel_rfl
theorem ap_121:apK Try.prog 121=some (5,1,1):=by kernel_rfl
theorem sz_121:szK Try.prog 121=some 1:=by kernel_rfl
theorem as_121_9:asK Try.prog 121 9 5=true:=by kernel_rfl
theorem un_135:Try.prog.underlying 135=some (.pointer 5):=by kernel_rfl
theorem un_121:Try.prog.underlying 121=some (.slice 5):=by kernel_rfl
theorem by_135_5:byK Try.prog 135 5=true:=by kernel_rfl
theorem zr_123:zrK Try.prog 123=some [.pointer none,.slice none 0 0]:=by kernel_rfl
theorem Yh3:slE Try.prog 121=some (5,1):=by kernel_rfl
theorem un_5:Try.prog.underlying 5=some (.int .u8):=by kernel_rfl
theorem ld_5:ldK Try.prog 5=some none:=by kernel_rfl
theorem un_21:Try.prog.underlying 21=some (.int .i32):=by kernel_rfl
theorem bd_100:bld Try.prog 100=some (#[.string (⟨#[]⟩:ByteArray),.bool false],[(0,1),(1,1)]):=by kernel_rfl
theorem bs_43_2:Xzi Try.prog 43 2=some (100,2,#[.string (⟨#[]⟩:ByteArray),.bool false,.string (⟨#[]⟩:ByteArray),.bool false]):=by kernel_rfl
theorem bd_74:bld Try.prog 74=some (#[.string (⟨#[]⟩:ByteArray),.int .i64 0],[(0,1),(1,1)]):=by kernel_rfl
theorem bs_44_1:Xzi Try.prog 44 1=some (74,2,#[.string (⟨#[]⟩:ByteArray),.int .i64 0]):=by kernel_rfl
theorem bd_104:bld Try.prog 104=some (#[.int .i64 0,.string (⟨#[]⟩:ByteArray),.string (⟨#[]⟩:ByteArray)],[(0,1),(1,1),(2,1)]):=by kernel_rfl
theorem Yfk:Xzi Try.prog 105 1=some (104,3,#[.int .i64 0,.string (⟨#[]⟩:ByteArray),.string (⟨#[]⟩:ByteArray)]):=by kernel_rfl
theorem bd_107:bld Try.prog 107=some (#[.int .i64 0,.slice none 0 0],[(0,1),(1,1)]):=by kernel_rfl
theorem bs_45_2:Xzi Try.prog 45 2=some (107,2,#[.int .i64 0,.slice none 0 0,.int .i64 0,.slice none 0 0]):=by kernel_rfl
theorem bd_47:bld Try.prog 47=some (#[.slice none 0 0,.slice none 0 0,.slice none 0 0],[(0,1),(1,1),(2,1)]):=by kernel_rfl
theorem bd_58:bld Try.prog 58=some (#[.string (⟨#[]⟩:ByteArray),.slice none 0 0,.slice none 0 0,.slice none 0 0,.slice none 0 0,.slice none 0 0,.slice none 0 0,.slice none 0 0,.slice none 0 0,.slice none 0 0,.slice none 0 0,.slice none 0 0],[(0,1),(1,1),(2,3),(5,1),(6,2),(8,1),(9,1),(10,1),(11,1)]):=by kernel_rfl
theorem zr_58:zrK Try.prog 58=some [.string (⟨#[]⟩:ByteArray),.slice none 0 0,.slice none 0 0,.slice none 0 0,.slice none 0 0,.slice none 0 0,.slice none 0 0,.slice none 0 0,.slice none 0 0,.slice none 0 0,.slice none 0 0,.slice none 0 0]:=by kernel_rfl
theorem sz_58:szK Try.prog 58=some 12:=by kernel_rfl
theorem fo_39_6:Xtk Try.prog 39 6=some 6:=by kernel_rfl
end Go.Proofs.Ytmekgfcfooghnaa.K
