/- The kinds of this seat's values and closed facts on its types, printed by my own tool. No condition. -/
import Derived.Test.YtmekgfcfooghnaaBE
import Derived.Test.YtmekgfcfooghnaaBL
import Derived.Test.YtmekgfcfooghnaaR
import Derived.Test.YtmekgfcfooghnaaProg
set_option linter.unusedVariables false
set_option maxRecDepth 100000
set_option maxHeartbeats 4000000
namespace Go.Proofs.Ytmekgfcfooghnaa.K
open Go.Proofs.Ytmekgfcfooghnaa.B Go.Proofs.Ytmekgfcfooghnaa.R Go.RowKit
def Xme (x:Xm4):List Value:=[.string x.name,.bool x.named,.string x.field,.int .i64 x.from_,.int .i64 x.to,.int .i64 x.kids,.int .i64 x.leaf]
theorem Xmv:∀ x,(Xme x).length=7:=fun _=>rfl
theorem Xna:∀ x,∀ u ∈ Xme x,u.oneCell'=true:=fun x u hu=>List.all_eq_true.1 (show (Xme x).all Value.oneCell'=true from rfl) u hu
abbrev Xmo:Kd Xm4:=Kd.flat 7 Xme Xmv Xna
def Xq5:Nat→Kd Xm6
  | 0=>{ sz:=9,K:=fun _ _ _ _=>False,len:=fun h=>h.elim,one:=fun h=>h.elim,mono:=fun h=>h.elim }
  | m + 1=>{ sz:=9,K:=(fun w F x cs=>∃ (A0:Option Addr),∃ (n0:Nat),∃ (c0:Nat),cs=[.string x.node.name,.bool x.node.named,.string x.node.field,.int .i64 x.node.from_,.int .i64 x.node.to,.int .i64 x.node.kids,.int .i64 x.node.leaf,.slice A0 n0 c0,.int .i64 x.at_]∧Rw (Xq5 m) w F A0 n0 c0 x.kids),len:=(by rintro w F x cs ⟨_,_,_,rfl,_⟩; rfl),one:=(by rintro w F x cs ⟨_,_,_,rfl,_⟩; exact fun u hu=>List.all_eq_true.1 rfl u hu),mono:=(by rintro w w' F F' x cs ⟨_,_,_,rfl,h0⟩ hF; exact ⟨_,_,_,rfl,h0.mono hF⟩) }
theorem Xw6 (m:Nat):∀ {w F x cs},(Xq5 m).K w F x cs→(Xq5 (m + 1)).K w F x cs:=by
  induction m with
  | zero=>exact fun h=>h.elim
  | succ m ih=>rintro w F x cs ⟨_,_,_,rfl,h0⟩; exact ⟨_,_,_,rfl,Rw.up (by cases m <;> rfl) (fun h=>ih h) h0⟩
theorem Xrq (m:Nat):(Xq5 m).sz=9:=by cases m <;> rfl
def Xmd:Kd Xm6:=Kd.union 9 Xq5 Xrq
theorem Xnt {w:World} {F:Nat→Prop} {x:Xm6} {cs:List Value} (h:(Xmd).K w F x cs):∃ (A0:Option Addr),∃ (n0:Nat),∃ (c0:Nat),cs=[.string x.node.name,.bool x.node.named,.string x.node.field,.int .i64 x.node.from_,.int .i64 x.node.to,.int .i64 x.node.kids,.int .i64 x.node.leaf,.slice A0 n0 c0,.int .i64 x.at_]∧Rw Xmd w F A0 n0 c0 x.kids:=by
  obtain ⟨m,h⟩:=h
  cases m with
  | zero=>exact h.elim
  | succ m =>
    obtain ⟨_,_,_,rfl,h0⟩:=h
    exact ⟨_,_,_,rfl,Rw.up (Xrq m).symm (fun h=>⟨m,h⟩) h0⟩
theorem Xob {w:World} {F:Nat→Prop} {x:Xm6} {cs:List Value} (h:∃ (A0:Option Addr),∃ (n0:Nat),∃ (c0:Nat),cs=[.string x.node.name,.bool x.node.named,.string x.node.field,.int .i64 x.node.from_,.int .i64 x.node.to,.int .i64 x.node.kids,.int .i64 x.node.leaf,.slice A0 n0 c0,.int .i64 x.at_]∧Rw Xmd w F A0 n0 c0 x.kids):(Xmd).K w F x cs:=by
  obtain ⟨_,_,_,rfl,h0⟩:=h
  obtain ⟨m,h'⟩:=Rw.level Xrq Xw6 h0
  exact ⟨m + 1,_,_,_,rfl,h'⟩
def Xsu (x:Xrt):List Value:=[.string x.name,.bool x.open_]
theorem Yb1:∀ x,(Xsu x).length=2:=fun _=>rfl
theorem Yas:∀ x,∀ u ∈ Xsu x,u.oneCell'=true:=fun x u hu=>List.all_eq_true.1 (show (Xsu x).all Value.oneCell'=true from rfl) u hu
abbrev Xoq:Kd Xrt:=Kd.flat 2 Xsu Yb1 Yas
def Xst (x:Xrr):List Value:=[.string x.name,.bool x.lit]
theorem Xq6:∀ x,(Xst x).length=2:=fun _=>rfl
theorem Xq3:∀ x,∀ u ∈ Xst x,u.oneCell'=true:=fun x u hu=>List.all_eq_true.1 (show (Xst x).all Value.oneCell'=true from rfl) u hu
abbrev Xng:Kd Xrr:=Kd.flat 2 Xst Xq6 Xq3
def Xv7 (x:Xv5):List Value:=[.string x.name,.int .i64 x.kind]
theorem Xsz:∀ x,(Xv7 x).length=2:=fun _=>rfl
theorem Xt0:∀ x,∀ u ∈ Xv7 x,u.oneCell'=true:=fun x u hu=>List.all_eq_true.1 (show (Xv7 x).all Value.oneCell'=true from rfl) u hu
abbrev Xor:Kd Xv5:=Kd.flat 2 Xv7 Xsz Xt0
def Xva (x:Xo0):List Value:=[.int .i64 x.sym,.string x.field,.string x.as]
theorem Xyj:∀ x,(Xva x).length=3:=fun _=>rfl
theorem Xy5:∀ x,∀ u ∈ Xva x,u.oneCell'=true:=fun x u hu=>List.all_eq_true.1 (show (Xva x).all Value.oneCell'=true from rfl) u hu
abbrev Xzj:Kd Xo0:=Kd.flat 3 Xva Xyj Xy5
def Xo9:Kd Xs0:={ sz:=2,K:=(fun w F x cs=>∃ (A0:Option Addr),∃ (n0:Nat),∃ (c0:Nat),cs=[.int .i64 x.lhs,.slice A0 n0 c0]∧Rw Xzj w F A0 n0 c0 x.rhs),len:=(by rintro w F x cs ⟨_,_,_,rfl,_⟩; rfl),one:=(by rintro w F x cs ⟨_,_,_,rfl,_⟩; exact fun u hu=>List.all_eq_true.1 rfl u hu),mono:=(by rintro w w' F F' x cs ⟨_,_,_,rfl,h0⟩ hF; exact ⟨_,_,_,rfl,h0.mono hF⟩) }
def Yei:Kd Xno:={ sz:=3,K:=(fun w F x cs=>∃ (A0:Option Addr),∃ (n0:Nat),∃ (c0:Nat),∃ (A1:Option Addr),∃ (n1:Nat),∃ (c1:Nat),∃ (A2:Option Addr),∃ (n2:Nat),∃ (c2:Nat),cs=[.slice A0 n0 c0,.slice A1 n1 c1,.slice A2 n2 c2]∧Rw Xng w F A0 n0 c0 x.terms∧Rw Xor w F A1 n1 c1 x.syms∧Rw Xo9 w F A2 n2 c2 x.prods),len:=(by rintro w F x cs ⟨_,_,_,_,_,_,_,_,_,rfl,_⟩; rfl),one:=(by rintro w F x cs ⟨_,_,_,_,_,_,_,_,_,rfl,_⟩; exact fun u hu=>List.all_eq_true.1 rfl u hu),mono:=(by rintro w w' F F' x cs ⟨_,_,_,_,_,_,_,_,_,rfl,h0,h1,h2⟩ hF; exact ⟨_,_,_,_,_,_,_,_,_,rfl,h0.mono hF,h1.mono hF,h2.mono hF⟩) }
def Xrp (x:Xrd):List Value:=[.int .i64 x.op]++((Xvt 4 fun j=>[.int .u64 (x.set_ j)])++([.int .i64 x.a]++([.int .i64 x.b])))
theorem Ybp (x:Xrd):(Xrp x).length=7:=by
  unfold Xrp
  have e0:([.int .i64 x.op]:List Value).length=1:=rfl
  have e1:((Xvt 4 fun j=>[.int .u64 (x.set_ j)]):List Value).length=4:=(Xyr (sz:=1) (f:=fun j=>[.int .u64 (x.set_ j)]) (fun j=>rfl) 4)
  have e2:([.int .i64 x.a]:List Value).length=1:=rfl
  have e3:([.int .i64 x.b]:List Value).length=1:=rfl
  simp only [List.length_append,e0,e1,e2,e3]
theorem Ybn (x:Xrd):(Xrp x).all Value.oneCell'=true:=by
  unfold Xrp
  simp only [List.all_append,Bool.and_eq_true]
  exact ⟨rfl,(Ydh (f:=fun j=>[.int .u64 (x.set_ j)]) (fun j=>rfl) 4),rfl,rfl⟩
theorem Ybm:∀ x,∀ u ∈ Xrp x,u.oneCell'=true:=fun x u hu=>List.all_eq_true.1 (Ybn x) u hu
abbrev Xws:Kd Xrd:=Kd.flat 7 Xrp Ybp Ybm
def Xuj (x:Xu6):List Value:=[.int .i64 x.kind,.int .i64 x.n]
theorem Ye2:∀ x,(Xuj x).length=2:=fun _=>rfl
theorem Yd6:∀ x,∀ u ∈ Xuj x,u.oneCell'=true:=fun x u hu=>List.all_eq_true.1 (show (Xuj x).all Value.oneCell'=true from rfl) u hu
abbrev Xy6:Kd Xu6:=Kd.flat 2 Xuj Ye2 Yd6
def Xvh (x:Xvj):List Value:=[.int .i64 x.kind,.int .i64 x.n,.int .i64 x.m]
theorem Yea:∀ x,(Xvh x).length=3:=fun _=>rfl
theorem Yee:∀ x,∀ u ∈ Xvh x,u.oneCell'=true:=fun x u hu=>List.all_eq_true.1 (show (Xvh x).all Value.oneCell'=true from rfl) u hu
abbrev Xzv:Kd Xvj:=Kd.flat 3 Xvh Yea Yee
def Xqc:Kd Xux:={ sz:=7,K:=(fun w F x cs=>∃ (A0:Option Addr),∃ (n0:Nat),∃ (c0:Nat),∃ (A1:Option Addr),∃ (n1:Nat),∃ (c1:Nat),∃ (A2:Option Addr),∃ (n2:Nat),∃ (c2:Nat),∃ (A3:Option Addr),∃ (n3:Nat),∃ (c3:Nat),cs=[.int .i64 x.term,.int .i64 x.pat,.slice A0 n0 c0,.string x.lit,.slice A1 n1 c1,.slice A2 n2 c2,.slice A3 n3 c3]∧Rw Xws w F A0 n0 c0 x.re∧Rw (Xs2 .i64) w F A1 n1 c1 x.in_∧Rw Xy6 w F A2 n2 c2 x.tests∧Rw Xzv w F A3 n3 c3 x.acts),len:=(by rintro w F x cs ⟨_,_,_,_,_,_,_,_,_,_,_,_,rfl,_⟩; rfl),one:=(by rintro w F x cs ⟨_,_,_,_,_,_,_,_,_,_,_,_,rfl,_⟩; exact fun u hu=>List.all_eq_true.1 rfl u hu),mono:=(by rintro w w' F F' x cs ⟨_,_,_,_,_,_,_,_,_,_,_,_,rfl,h0,h1,h2,h3⟩ hF; exact ⟨_,_,_,_,_,_,_,_,_,_,_,_,rfl,h0.mono hF,h1.mono hF,h2.mono hF,h3.mono hF⟩) }
def Xtf (x:Xp7):List Value:=[.int .i64 x.kind,.int .i64 x.n]
theorem Ybo:∀ x,(Xtf x).length=2:=fun _=>rfl
theorem Ybq:∀ x,∀ u ∈ Xtf x,u.oneCell'=true:=fun x u hu=>List.all_eq_true.1 (show (Xtf x).all Value.oneCell'=true from rfl) u hu
abbrev Xol:Kd Xp7:=Kd.flat 2 Xtf Ybo Ybq
def Yds:Kd Xxq:={ sz:=2,K:=(fun w F x cs=>∃ (A0:Option Addr),∃ (n0:Nat),∃ (c0:Nat),∃ (A1:Option Addr),∃ (n1:Nat),∃ (c1:Nat),cs=[.slice A0 n0 c0,.slice A1 n1 c1]∧Rw (Kd.slice Xol) w F A0 n0 c0 x.actions∧Rw (Kd.slice (Xs2 .i64)) w F A1 n1 c1 x.gotos),len:=(by rintro w F x cs ⟨_,_,_,_,_,_,rfl,_⟩; rfl),one:=(by rintro w F x cs ⟨_,_,_,_,_,_,rfl,_⟩; exact fun u hu=>List.all_eq_true.1 rfl u hu),mono:=(by rintro w w' F F' x cs ⟨_,_,_,_,_,_,rfl,h0,h1⟩ hF; exact ⟨_,_,_,_,_,_,rfl,h0.mono hF,h1.mono hF⟩) }
def Xsg (x:Xr8):List Value:=[.string x.name,.string x.class_]
theorem Yac:∀ x,(Xsg x).length=2:=fun _=>rfl
theorem Ya9:∀ x,∀ u ∈ Xsg x,u.oneCell'=true:=fun x u hu=>List.all_eq_true.1 (show (Xsg x).all Value.oneCell'=true from rfl) u hu
abbrev Xoc:Kd Xr8:=Kd.flat 2 Xsg Yac Ya9
def Xsv (x:Xru):List Value:=[.string x.name,.string x.field]
theorem Yax:∀ x,(Xsv x).length=2:=fun _=>rfl
theorem Ybb:∀ x,∀ u ∈ Xsv x,u.oneCell'=true:=fun x u hu=>List.all_eq_true.1 (show (Xsv x).all Value.oneCell'=true from rfl) u hu
abbrev Xop:Kd Xru:=Kd.flat 2 Xsv Yax Ybb
def Xs5 (x:Xqo):List Value:=[.string x.name,.string x.lang]
theorem Xzo:∀ x,(Xs5 x).length=2:=fun _=>rfl
theorem Xzg:∀ x,∀ u ∈ Xs5 x,u.oneCell'=true:=fun x u hu=>List.all_eq_true.1 (show (Xs5 x).all Value.oneCell'=true from rfl) u hu
abbrev Xo4:Kd Xqo:=Kd.flat 2 Xs5 Xzo Xzg
def Yem:Kd Xml:={ sz:=12,K:=(fun w F x cs=>∃ (A0:Option Addr),∃ (n0:Nat),∃ (c0:Nat),∃ (A1:Option Addr),∃ (n1:Nat),∃ (c1:Nat),∃ (A2:Option Addr),∃ (n2:Nat),∃ (c2:Nat),∃ (A3:Option Addr),∃ (n3:Nat),∃ (c3:Nat),∃ (A4:Option Addr),∃ (n4:Nat),∃ (c4:Nat),∃ (A5:Option Addr),∃ (n5:Nat),∃ (c5:Nat),∃ (A6:Option Addr),∃ (n6:Nat),∃ (c6:Nat),∃ (A7:Option Addr),∃ (n7:Nat),∃ (c7:Nat),∃ (A8:Option Addr),∃ (n8:Nat),∃ (c8:Nat),∃ (A9:Option Addr),∃ (n9:Nat),∃ (c9:Nat),∃ (A10:Option Addr),∃ (n10:Nat),∃ (c10:Nat),cs=[.string x.name,.slice A0 n0 c0,.slice A1 n1 c1,.slice A2 n2 c2,.slice A3 n3 c3,.slice A4 n4 c4,.slice A5 n5 c5,.slice A6 n6 c6,.slice A7 n7 c7,.slice A8 n8 c8,.slice A9 n9 c9,.slice A10 n10 c10]∧Rw Xoq w F A0 n0 c0 x.modes∧Rw Xng w F A1 n1 c1 x.gram.terms∧Rw Xor w F A2 n2 c2 x.gram.syms∧Rw Xo9 w F A3 n3 c3 x.gram.prods∧Rw Xqc w F A4 n4 c4 x.rules∧Rw (Kd.slice Xol) w F A5 n5 c5 x.table.actions∧Rw (Kd.slice (Xs2 .i64)) w F A6 n6 c6 x.table.gotos∧Rw Xoc w F A7 n7 c7 x.paints∧Rw Xz4 w F A8 n8 c8 x.folds∧Rw Xop w F A9 n9 c9 x.marks∧Rw Xo4 w F A10 n10 c10 x.injects),len:=(by rintro w F x cs ⟨_,_,_,_,_,_,_,_,_,_,_,_,_,_,_,_,_,_,_,_,_,_,_,_,_,_,_,_,_,_,_,_,_,rfl,_⟩; rfl),one:=(by rintro w F x cs ⟨_,_,_,_,_,_,_,_,_,_,_,_,_,_,_,_,_,_,_,_,_,_,_,_,_,_,_,_,_,_,_,_,_,rfl,_⟩; exact fun u hu=>List.all_eq_true.1 rfl u hu),mono:=(by rintro w w' F F' x cs ⟨_,_,_,_,_,_,_,_,_,_,_,_,_,_,_,_,_,_,_,_,_,_,_,_,_,_,_,_,_,_,_,_,_,rfl,h0,h1,h2,h3,h4,h5,h6,h7,h8,h9,h10⟩ hF; exact ⟨_,_,_,_,_,_,_,_,_,_,_,_,_,_,_,_,_,_,_,_,_,_,_,_,_,_,_,_,_,_,_,_,_,rfl,h0.mono hF,h1.mono hF,h2.mono hF,h3.mono hF,h4.mono hF,h5.mono hF,h6.mono hF,h7.mono hF,h8.mono hF,h9.mono hF,h10.mono hF⟩) }
theorem Ycu (x y:Xm4):Yb9 (Xme x).toArray (Xme y).toArray [(0,2),(1,0),(2,2),(3,1),(4,1),(5,1),(6,1)]=some (decide (x=y)):=by
  cases x; cases y; refine congrArg some ?_; rw [Bool.eq_iff_iff]; simp [Yf5]
def Xx0:Kd (List Xm4 × Nat):={ sz:=1,K:=(fun w F x cs=>∃ (A:Option Addr) (n c:Nat),cs=[.slice A x.2 c]∧Rw Xmo w F A n c x.1∧x.2≤n),len:=(by rintro w F x cs ⟨_,_,_,rfl,_⟩; rfl),one:=(by rintro w F x cs ⟨_,_,_,rfl,_⟩; exact fun u hu=>List.all_eq_true.1 rfl u hu),mono:=(by rintro w w' F F' x cs ⟨_,_,_,rfl,h,k⟩ hF; exact ⟨_,_,_,rfl,h.mono hF,k⟩) }
theorem vw_22 (xs:List (List Xm4)):(xs.map Yeg).map Xt7=xs:=by
  induction xs with
  | nil=>rfl
  | cons x xs ih =>
    rw [List.map_cons,List.map_cons,ih]
    congr 1
    simp [Xt7,Yeg]
abbrev Xys:Fk (List Xm4):={ α:=Xm4,inn:=fun x=>x,enc:=Xme,e:=39,sz:=7,so:=1,cl:=fun x d=>[.slice d.A d.n d.c],hl:=Xmv,h1:=Xna,hcl:=fun _ _=>rfl,ok:=fun x=>True,inj:=fun x d d' _ _ h=>by cases d; cases d'; simpa using h }
abbrev Xoo:Fk (List Xm4 × Nat):={ α:=Xm4,inn:=fun x=>x.1,enc:=Xme,e:=39,sz:=7,so:=1,cl:=fun x d=>[.slice d.A x.2 d.c],hl:=Xmv,h1:=Xna,hcl:=fun _ _=>rfl,ok:=fun x=>x.2≤x.1.length,inj:=fun x d d' h1 h2 h=>by obtain ⟨A,n,c⟩:=d; obtain ⟨A',n',c'⟩:=d'; simp at h; obtain ⟨rfl,rfl⟩:=h; dsimp only at h1 h2; rw [h1,h2] }
theorem mix:Try.prog.follows .mixedOrders=true:=by kernel_rfl
theorem Xsc:Try.prog.underlying 22=some (.slice 39):=by kernel_rfl
theorem Xqp:Try.prog.underlying 23=some (.slice 3):=by kernel_rfl
theorem Xqi:slE Try.prog 22=some (39,7):=by kernel_rfl
theorem Xsf:Xti Try.prog 39 5=some 5:=by kernel_rfl
theorem Xql:ldK Try.prog 3=some none:=by kernel_rfl
theorem Xve:Ybc Try.prog 23 1=some (3,1,#[.int .i64 0]):=by kernel_rfl
theorem Xx2:apK Try.prog 23=some (3,1,8):=by kernel_rfl
theorem Xpg:slE Try.prog 23=some (3,1):=by kernel_rfl
theorem Yaa:szK Try.prog 3=some 1:=by kernel_rfl
theorem Xyz:apK Try.prog 22=some (39,7,72):=by kernel_rfl
theorem Ybz:bld Try.prog 39=some (#[.string (⟨#[]⟩:ByteArray),.bool false,.string (⟨#[]⟩:ByteArray),.int .i64 0,.int .i64 0,.int .i64 0,.int .i64 0],[(0,1),(1,1),(2,1),(3,1),(4,1),(5,1),(6,1)]):=by kernel_rfl
theorem bs_22_2:Ybc Try.prog 22 2=some (39,7,#[.string (⟨#[]⟩:ByteArray),.bool false,.string (⟨#[]⟩:ByteArray),.int .i64 0,.int .i64 0,.int .i64 0,.int .i64 0,.string (⟨#[]⟩:ByteArray),.bool false,.string (⟨#[]⟩:ByteArray),.int .i64 0,.int .i64 0,.int .i64 0,.int .i64 0]):=by kernel_rfl
theorem Yb2:zrK Try.prog 32=some [.slice none 0 0,.slice none 0 0,.slice none 0 0,.bool false]:=by kernel_rfl
theorem Xy4:mkK Try.prog 23=some (3,[.int .i64 0],8):=by kernel_rfl
theorem Ybw:bld Try.prog 32=some (#[.slice none 0 0,.slice none 0 0,.slice none 0 0,.bool false],[(0,1),(1,1),(2,1),(3,1)]):=by kernel_rfl
theorem Xyl:szK Try.prog 32=some 4:=by kernel_rfl
theorem Xy1:ldK Try.prog 39=some (some 7):=by kernel_rfl
theorem zr_39:zrK Try.prog 39=some [.string (⟨#[]⟩:ByteArray),.bool false,.string (⟨#[]⟩:ByteArray),.int .i64 0,.int .i64 0,.int .i64 0,.int .i64 0]:=by kernel_rfl
theorem sz_39:szK Try.prog 39=some 7:=by kernel_rfl
theorem Yex:Xti Try.prog 32 1=some 1:=by kernel_rfl
theorem ld_23:ldK Try.prog 23=some none:=by kernel_rfl
theorem Yd7:ldK Try.prog 32=some (some 4):=by kernel_rfl
theorem Yfb:Xti Try.prog 32 2=some 2:=by kernel_rfl
theorem Yep:Xti Try.prog 32 3=some 3:=by kernel_rfl
theorem sz_4:szK Try.prog 4=some 1:=by kernel_rfl
theorem ld_4:ldK Try.prog 4=some none:=by kernel_rfl
theorem Xsj:ldK Try.prog 22=some none:=by kernel_rfl
theorem Xz5:zrK Try.prog 96=some [.string (⟨#[]⟩:ByteArray),.bool false,.string (⟨#[]⟩:ByteArray),.int .i64 0,.int .i64 0,.int .i64 0,.int .i64 0,.slice none 0 0,.int .i64 0]:=by kernel_rfl
theorem Ye3:bld Try.prog 96=some (#[.string (⟨#[]⟩:ByteArray),.bool false,.string (⟨#[]⟩:ByteArray),.int .i64 0,.int .i64 0,.int .i64 0,.int .i64 0,.slice none 0 0,.int .i64 0],[(0,7),(7,1),(8,1)]):=by kernel_rfl
theorem Xww:szK Try.prog 96=some 9:=by kernel_rfl
theorem Yah:Xti Try.prog 96 1=some 7:=by kernel_rfl
theorem ld_89:ldK Try.prog 89=some none:=by kernel_rfl
theorem Xw9:ldK Try.prog 96=some (some 9):=by kernel_rfl
theorem Xxo:Ybc Try.prog 89 1=some (96,9,#[.string (⟨#[]⟩:ByteArray),.bool false,.string (⟨#[]⟩:ByteArray),.int .i64 0,.int .i64 0,.int .i64 0,.int .i64 0,.slice none 0 0,.int .i64 0]):=by kernel_rfl
theorem Yby:apK Try.prog 89=some (96,9,104):=by kernel_rfl
theorem sz_89:szK Try.prog 89=some 1:=by kernel_rfl
theorem Ybv:Try.prog.underlying 89=some (.slice 96):=by kernel_rfl
theorem eq_39:eqK Try.prog 39=some [(0,2),(1,0),(2,2),(3,1),(4,1),(5,1),(6,1)]:=by kernel_rfl
theorem Xx8:slE Try.prog 89=some (96,9):=by kernel_rfl
theorem Xuy:Try.prog.underlying 59=some (.slice 22):=by kernel_rfl
theorem Xqn:slE Try.prog 59=some (22,1):=by kernel_rfl
theorem Xqa:Xti Try.prog 58 2=some 2:=by kernel_rfl
theorem Xrw:Xti Try.prog 47 0=some 0:=by kernel_rfl
theorem Xus:ldK Try.prog 43=some none:=by kernel_rfl
theorem Ya5:Try.prog.underlying 43=some (.slice 100):=by kernel_rfl
theorem Xyb:slE Try.prog 43=some (100,2):=by kernel_rfl
theorem ld_100:ldK Try.prog 100=some (some 2):=by kernel_rfl
theorem zr_100:zrK Try.prog 100=some [.string (⟨#[]⟩:ByteArray),.bool false]:=by kernel_rfl
theorem sz_100:szK Try.prog 100=some 2:=by kernel_rfl
theorem Xym:Xti Try.prog 100 0=some 0:=by kernel_rfl
theorem Xwk:ldK Try.prog 9=some none:=by kernel_rfl
theorem Xyu:Xti Try.prog 100 1=some 1:=by kernel_rfl
theorem Xyo:Ybc Try.prog 22 1=some (39,7,#[.string (⟨#[]⟩:ByteArray),.bool false,.string (⟨#[]⟩:ByteArray),.int .i64 0,.int .i64 0,.int .i64 0,.int .i64 0]):=by kernel_rfl
theorem Xtt:Xti Try.prog 47 1=some 1:=by kernel_rfl
theorem Xy0:ldK Try.prog 44=some none:=by kernel_rfl
theorem un_44:Try.prog.underlying 44=some (.slice 74):=by kernel_rfl
theorem Xzi:slE Try.prog 44=some (74,2):=by kernel_rfl
theorem Yam:Xti Try.prog 74 1=some 1:=by kernel_rfl
theorem ld_72:ldK Try.prog 72=some none:=by kernel_rfl
theorem un_9:Try.prog.underlying 9=some (.string):=by kernel_rfl
theorem Xwe:Xti Try.prog 96 0=some 0:=by kernel_rfl
theorem Yaj:Xti Try.prog 39 3=some 3:=by kernel_rfl
theorem Xxm:Xti Try.prog 39 4=some 4:=by kernel_rfl
theorem Xzy:ldK Try.prog 47=some (some 3):=by kernel_rfl
theorem Xx5:Xti Try.prog 104 0=some 0:=by kernel_rfl
theorem Xu5:Xti Try.prog 104 2=some 2:=by kernel_rfl
theorem Yai:Xti Try.prog 39 0=some 0:=by kernel_rfl
theorem sz_9:szK Try.prog 9=some 1:=by kernel_rfl
theorem Yf6:Xti Try.prog 39 1=some 1:=by kernel_rfl
theorem Xyq:Xti Try.prog 39 2=some 2:=by kernel_rfl
theorem Ycy:Xti Try.prog 104 1=some 1:=by kernel_rfl
theorem Yae:Xti Try.prog 47 2=some 2:=by kernel_rfl
theorem ld_45:ldK Try.prog 45=some none:=by kernel_rfl
theorem un_45:Try.prog.underlying 45=some (.slice 107):=by kernel_rfl
theorem slE_45:slE Try.prog 45=some (107,2):=by kernel_rfl
theorem ld_107:ldK Try.prog 107=some (some 2):=by kernel_rfl
theorem zr_107:zrK Try.prog 107=some [.int .i64 0,.slice none 0 0]:=by kernel_rfl
theorem sz_107:szK Try.prog 107=some 2:=by kernel_rfl
theorem Xt9:Xti Try.prog 107 1=some 1:=by kernel_rfl
theorem Xwj:ldK Try.prog 105=some none:=by kernel_rfl
theorem Xxf:Try.prog.underlying 105=some (.slice 104):=by kernel_rfl
theorem Yeu:slE Try.prog 105=some (104,3):=by kernel_rfl
theorem Ye7:ldK Try.prog 104=some (some 3):=by kernel_rfl
theorem Xtz:Xti Try.prog 107 0=some 0:=by kernel_rfl
theorem Yf3:Xti Try.prog 74 0=some 0:=by kernel_rfl
theorem fd_32_3:fdK Try.prog 32 3=some (3,none):=by kernel_rfl
theorem bs_22_0:Ybc Try.prog 22 0=some (39,7,#[]):=by kernel_rfl
theorem Xy2:ldK Try.prog 58=some (some 12):=by kernel_rfl
theorem zr_104:zrK Try.prog 104=some [.int .i64 0,.string (⟨#[]⟩:ByteArray),.string (⟨#[]⟩:ByteArray)]:=by kernel_rfl
theorem sz_104:szK Try.prog 104=some 3:=by kernel_rfl
theorem Yf8:Ybc Try.prog 59 1=some (22,1,#[.slice none 0 0]):=by kernel_rfl
theorem ap_59:apK Try.prog 59=some (22,1,24):=by kernel_rfl
theorem bs_59_2:Ybc Try.prog 59 2=some (22,1,#[.slice none 0 0,.slice none 0 0]):=by kernel_rfl
theorem bs_23_2:Ybc Try.prog 23 2=some (3,1,#[.int .i64 0,.int .i64 0]):=by kernel_rfl
end Go.Proofs.Ytmekgfcfooghnaa.K
