/- The kinds of this seat's values and closed facts on its types, printed by my own tool. No condition. -/
import Derived.Test.YtjookebbmfiidaaDoorBW
import Derived.Test.YtjookebbmfiidaaDoorBT
import Derived.Test.YtjookebbmfiidaaDoorR
import Derived.Test.YtjookebbmfiidaaDoorProg
import Derived.Test.YtjookebbmfiidaaDoorBG
import Derived.Test.YtjookebbmfiidaaDoorS
set_option linter.unusedVariables false
set_option maxRecDepth 100000
set_option maxHeartbeats 4000000
namespace Go.Proofs.YtjookebbmfiidaaDoor.K
open Go.Proofs.YtjookebbmfiidaaDoor.B Go.Proofs.YtjookebbmfiidaaDoor.R Go.RowKit
def Bq (x:Aj):List Value:=[.string x.name,.bool x.lit,.string x.field,.string x.capture,.int .i64 x.kids]
theorem Dp:∀ x,(Bq x).length=5:=fun _=>rfl
theorem Du:∀ x,∀ u ∈ Bq x,u.oneCell'=true:=fun x u hu=>List.all_eq_true.1 (show (Bq x).all Value.oneCell'=true from rfl) u hu
abbrev Cb:Kd Aj:=Kd.flat 5 Bq Dp Du
def Dz (x:Ai):List Value:=[.string x.name,.bool x.named,.string x.field,.int .i64 x.from_,.int .i64 x.to,.int .i64 x.kids,.int .i64 x.leaf]
theorem Fh:∀ x,(Dz x).length=7:=fun _=>rfl
theorem Gg:∀ x,∀ u ∈ Dz x,u.oneCell'=true:=fun x u hu=>List.all_eq_true.1 (show (Dz x).all Value.oneCell'=true from rfl) u hu
abbrev D9:Kd Ai:=Kd.flat 7 Dz Fh Gg
def Di (x:D8):List Value:=[.bool x.not,.string x.a,.string x.b,.string x.text]
theorem Nh:∀ x,(Di x).length=4:=fun _=>rfl
theorem Nc:∀ x,∀ u ∈ Di x,u.oneCell'=true:=fun x u hu=>List.all_eq_true.1 (show (Di x).all Value.oneCell'=true from rfl) u hu
abbrev Dq:Kd D8:=Kd.flat 4 Di Nh Nc
def Xji:Kd Aq:={ sz:=2,K:=(fun w F x cs=>∃ (A0:Option Addr),∃ (n0:Nat),∃ (c0:Nat),∃ (A1:Option Addr),∃ (n1:Nat),∃ (c1:Nat),cs=[.slice A0 n0 c0,.slice A1 n1 c1]∧Rw Cb w F A0 n0 c0 x.nodes∧Rw Dq w F A1 n1 c1 x.conds),len:=(by rintro w F x cs ⟨_,_,_,_,_,_,rfl,_⟩; rfl),one:=(by rintro w F x cs ⟨_,_,_,_,_,_,rfl,_⟩; exact fun u hu=>List.all_eq_true.1 rfl u hu),mono:=(by rintro w w' F F' x cs ⟨_,_,_,_,_,_,rfl,h0,h1⟩ hF; exact ⟨_,_,_,_,_,_,rfl,h0.mono hF,h1.mono hF⟩) }
def Nb:Nat→Kd Ak
  | 0=>{ sz:=9,K:=fun _ _ _ _=>False,len:=fun h=>h.elim,one:=fun h=>h.elim,mono:=fun h=>h.elim }
  | m + 1=>{ sz:=9,K:=(fun w F x cs=>∃ (A0:Option Addr),∃ (n0:Nat),∃ (c0:Nat),cs=[.string x.node.name,.bool x.node.named,.string x.node.field,.int .i64 x.node.from_,.int .i64 x.node.to,.int .i64 x.node.kids,.int .i64 x.node.leaf,.slice A0 n0 c0,.int .i64 x.at_]∧Rw (Nb m) w F A0 n0 c0 x.kids),len:=(by rintro w F x cs ⟨_,_,_,rfl,_⟩; rfl),one:=(by rintro w F x cs ⟨_,_,_,rfl,_⟩; exact fun u hu=>List.all_eq_true.1 rfl u hu),mono:=(by rintro w w' F F' x cs ⟨_,_,_,rfl,h0⟩ hF; exact ⟨_,_,_,rfl,h0.mono hF⟩) }
theorem Zp (m:Nat):∀ {w F x cs},(Nb m).K w F x cs→(Nb (m + 1)).K w F x cs:=by
  induction m with
  | zero=>exact fun h=>h.elim
  | succ m ih=>rintro w F x cs ⟨_,_,_,rfl,h0⟩; exact ⟨_,_,_,rfl,Rw.up (by cases m <;> rfl) (fun h=>ih h) h0⟩
theorem Ri (m:Nat):(Nb m).sz=9:=by cases m <;> rfl
def C9:Kd Ak:=Kd.union 9 Nb Ri
theorem Jl {w:World} {F:Nat→Prop} {x:Ak} {cs:List Value} (h:(C9).K w F x cs):∃ (A0:Option Addr),∃ (n0:Nat),∃ (c0:Nat),cs=[.string x.node.name,.bool x.node.named,.string x.node.field,.int .i64 x.node.from_,.int .i64 x.node.to,.int .i64 x.node.kids,.int .i64 x.node.leaf,.slice A0 n0 c0,.int .i64 x.at_]∧Rw C9 w F A0 n0 c0 x.kids:=by
  obtain ⟨m,h⟩:=h
  cases m with
  | zero=>exact h.elim
  | succ m =>
    obtain ⟨_,_,_,rfl,h0⟩:=h
    exact ⟨_,_,_,rfl,Rw.up (Ri m).symm (fun h=>⟨m,h⟩) h0⟩
theorem Wh {w:World} {F:Nat→Prop} {x:Ak} {cs:List Value} (h:∃ (A0:Option Addr),∃ (n0:Nat),∃ (c0:Nat),cs=[.string x.node.name,.bool x.node.named,.string x.node.field,.int .i64 x.node.from_,.int .i64 x.node.to,.int .i64 x.node.kids,.int .i64 x.node.leaf,.slice A0 n0 c0,.int .i64 x.at_]∧Rw C9 w F A0 n0 c0 x.kids):(C9).K w F x cs:=by
  obtain ⟨_,_,_,rfl,h0⟩:=h
  obtain ⟨m,h'⟩:=Rw.level Ri Zp h0
  exact ⟨m + 1,_,_,_,rfl,h'⟩
def F6:Kd Be:={ sz:=1,K:=(fun w F x cs=>∃ (A0:Option Addr),∃ (n0:Nat),∃ (c0:Nat),cs=[.slice A0 n0 c0]∧Rw (Gs .i64) w F A0 n0 c0 x.nodes),len:=(by rintro w F x cs ⟨_,_,_,rfl,_⟩; rfl),one:=(by rintro w F x cs ⟨_,_,_,rfl,_⟩; exact fun u hu=>List.all_eq_true.1 rfl u hu),mono:=(by rintro w w' F F' x cs ⟨_,_,_,rfl,h0⟩ hF; exact ⟨_,_,_,rfl,h0.mono hF⟩) }
abbrev Ey:Fk Be:={ α:=Int,inn:=fun x=>x.nodes,enc:=(eI .i64),e:=3,sz:=1,so:=1,cl:=fun x d=>[.slice d.A d.n d.c],hl:=(hlI .i64),h1:=(F9 .i64),hcl:=fun _ _=>rfl,inj:=fun x d d' h=>by cases d; cases d'; simpa using h }
theorem Xav (x y:Aj):Xd9 (Bq x).toArray (Bq y).toArray [(0,2),(1,0),(2,2),(3,2),(4,1)]=some (decide (x=y)):=by
  cases x; cases y; refine congrArg some ?_; rw [Bool.eq_iff_iff]; simp [Ur]
theorem Xdn (x y:D8):Xd9 (Di x).toArray (Di y).toArray [(0,0),(1,2),(2,2),(3,2)]=some (decide (x=y)):=by
  cases x; cases y; refine congrArg some ?_; rw [Bool.eq_iff_iff]; simp [Ur]
theorem Xdf (x y:Ai):Xd9 (Dz x).toArray (Dz y).toArray [(0,2),(1,0),(2,2),(3,1),(4,1),(5,1),(6,1)]=some (decide (x=y)):=by
  cases x; cases y; refine congrArg some ?_; rw [Bool.eq_iff_iff]; simp [Ur]
theorem mix:Tryd.prog.follows .mixedOrders=true:=by kernel_rfl
theorem Tm:Tryd.prog.underlying 22=some (.slice 45):=by kernel_rfl
theorem Iy:Tryd.prog.underlying 36=some (.slice 3):=by kernel_rfl
theorem Oq:slE Tryd.prog 22=some (45,5):=by kernel_rfl
theorem Vz:Uk Tryd.prog 45 4=some 4:=by kernel_rfl
theorem O9:ldK Tryd.prog 3=some none:=by kernel_rfl
theorem Qx:Xff Tryd.prog 36 1=some (3,1,#[.int .i64 0]):=by kernel_rfl
theorem Y5:apK Tryd.prog 36=some (3,1,8):=by kernel_rfl
theorem Jb:slE Tryd.prog 36=some (3,1):=by kernel_rfl
theorem sz_3:szK Tryd.prog 3=some 1:=by kernel_rfl
theorem V3:Tryd.prog.underlying 26=some (.slice 56):=by kernel_rfl
theorem Ro:slE Tryd.prog 26=some (56,7):=by kernel_rfl
theorem Xas:Uk Tryd.prog 56 5=some 5:=by kernel_rfl
theorem Xfy:zrK Tryd.prog 25=some [.slice none 0 0,.slice none 0 0]:=by kernel_rfl
theorem Ew:Uk Tryd.prog 25 0=some 0:=by kernel_rfl
theorem Kr:ldK Tryd.prog 22=some none:=by kernel_rfl
theorem Xc5:ldK Tryd.prog 45=some (some 5):=by kernel_rfl
theorem Xlg:Xff Tryd.prog 22 1=some (45,5,#[.string (⟨#[]⟩:ByteArray),.bool false,.string (⟨#[]⟩:ByteArray),.string (⟨#[]⟩:ByteArray),.int .i64 0]):=by kernel_rfl
theorem ap_22:apK Tryd.prog 22=some (45,5,64):=by kernel_rfl
theorem sz_22:szK Tryd.prog 22=some 1:=by kernel_rfl
theorem Ik:Uk Tryd.prog 25 1=some 1:=by kernel_rfl
theorem U8:ldK Tryd.prog 23=some none:=by kernel_rfl
theorem Yu:Tryd.prog.underlying 23=some (.slice 47):=by kernel_rfl
theorem Zl:slE Tryd.prog 23=some (47,4):=by kernel_rfl
theorem Xf3:ldK Tryd.prog 47=some (some 4):=by kernel_rfl
theorem Xlc:Xff Tryd.prog 23 1=some (47,4,#[.bool false,.string (⟨#[]⟩:ByteArray),.string (⟨#[]⟩:ByteArray),.string (⟨#[]⟩:ByteArray)]):=by kernel_rfl
theorem ap_23:apK Tryd.prog 23=some (47,4,56):=by kernel_rfl
theorem sz_23:szK Tryd.prog 23=some 1:=by kernel_rfl
theorem O5:ldK Tryd.prog 25=some (some 2):=by kernel_rfl
theorem Xh8:szK Tryd.prog 25=some 2:=by kernel_rfl
theorem Xb5:ldK Tryd.prog 56=some (some 7):=by kernel_rfl
theorem Xl1:Xff Tryd.prog 26 1=some (56,7,#[.string (⟨#[]⟩:ByteArray),.bool false,.string (⟨#[]⟩:ByteArray),.int .i64 0,.int .i64 0,.int .i64 0,.int .i64 0]):=by kernel_rfl
theorem ap_26:apK Tryd.prog 26=some (56,7,72):=by kernel_rfl
theorem Un:Tryd.prog.underlying 9=some (.string):=by kernel_rfl
theorem Xic:Uk Tryd.prog 84 0=some 0:=by kernel_rfl
theorem ld_79:ldK Tryd.prog 79=some none:=by kernel_rfl
theorem Lj:Uk Tryd.prog 84 1=some 1:=by kernel_rfl
theorem Gw:ldK Tryd.prog 9=some none:=by kernel_rfl
theorem Xdy:Uk Tryd.prog 84 2=some 2:=by kernel_rfl
theorem bd_84:bld Tryd.prog 84=some (#[.int .i64 0,.string (⟨#[]⟩:ByteArray),.int .i64 0,.int .i64 0],[(0,1),(1,1),(2,1),(3,1)]):=by kernel_rfl
theorem Wl:Uk Tryd.prog 45 3=some 3:=by kernel_rfl
theorem zr_45:zrK Tryd.prog 45=some [.string (⟨#[]⟩:ByteArray),.bool false,.string (⟨#[]⟩:ByteArray),.string (⟨#[]⟩:ByteArray),.int .i64 0]:=by kernel_rfl
theorem sz_45:szK Tryd.prog 45=some 5:=by kernel_rfl
theorem Ye:Uk Tryd.prog 45 1=some 1:=by kernel_rfl
theorem Xao:ldK Tryd.prog 4=some none:=by kernel_rfl
theorem U1:Uk Tryd.prog 45 0=some 0:=by kernel_rfl
theorem Uo:Uk Tryd.prog 45 2=some 2:=by kernel_rfl
theorem zr_47:zrK Tryd.prog 47=some [.bool false,.string (⟨#[]⟩:ByteArray),.string (⟨#[]⟩:ByteArray),.string (⟨#[]⟩:ByteArray)]:=by kernel_rfl
theorem sz_47:szK Tryd.prog 47=some 4:=by kernel_rfl
theorem Xdh:Uk Tryd.prog 47 1=some 1:=by kernel_rfl
theorem Z9:Uk Tryd.prog 47 2=some 2:=by kernel_rfl
theorem Xfl:Uk Tryd.prog 47 3=some 3:=by kernel_rfl
theorem Xb4:zrK Tryd.prog 118=some [.string (⟨#[]⟩:ByteArray),.bool false,.string (⟨#[]⟩:ByteArray),.int .i64 0,.int .i64 0,.int .i64 0,.int .i64 0,.slice none 0 0,.int .i64 0]:=by kernel_rfl
theorem Xiv:bld Tryd.prog 118=some (#[.string (⟨#[]⟩:ByteArray),.bool false,.string (⟨#[]⟩:ByteArray),.int .i64 0,.int .i64 0,.int .i64 0,.int .i64 0,.slice none 0 0,.int .i64 0],[(0,7),(7,1),(8,1)]):=by kernel_rfl
theorem Y3:szK Tryd.prog 118=some 9:=by kernel_rfl
theorem Xbm:Uk Tryd.prog 118 1=some 7:=by kernel_rfl
theorem ld_96:ldK Tryd.prog 96=some none:=by kernel_rfl
theorem Yv:ldK Tryd.prog 118=some (some 9):=by kernel_rfl
theorem Xl8:Xff Tryd.prog 96 1=some (118,9,#[.string (⟨#[]⟩:ByteArray),.bool false,.string (⟨#[]⟩:ByteArray),.int .i64 0,.int .i64 0,.int .i64 0,.int .i64 0,.slice none 0 0,.int .i64 0]):=by kernel_rfl
theorem ap_96:apK Tryd.prog 96=some (118,9,104):=by kernel_rfl
theorem sz_96:szK Tryd.prog 96=some 1:=by kernel_rfl
theorem un_96:Tryd.prog.underlying 96=some (.slice 118):=by kernel_rfl
theorem Xfj:Uk Tryd.prog 56 2=some 2:=by kernel_rfl
theorem Xfi:Uk Tryd.prog 56 1=some 1:=by kernel_rfl
theorem Xbq:Uk Tryd.prog 56 0=some 0:=by kernel_rfl
theorem Xfw:slE Tryd.prog 96=some (118,9):=by kernel_rfl
theorem Xfo:Uk Tryd.prog 118 2=some 8:=by kernel_rfl
theorem Xkw:Uk Tryd.prog 56 3=some 3:=by kernel_rfl
theorem Xku:Uk Tryd.prog 56 4=some 4:=by kernel_rfl
theorem Xiu:Uk Tryd.prog 47 0=some 0:=by kernel_rfl
theorem un_4:Tryd.prog.underlying 4=some (.bool):=by kernel_rfl
theorem bd_38:bld Tryd.prog 38=some (#[.slice none 0 0],[(0,1)]):=by kernel_rfl
theorem Xle:Xff Tryd.prog 31 1=some (38,1,#[.slice none 0 0]):=by kernel_rfl
theorem ap_31:apK Tryd.prog 31=some (38,1,24):=by kernel_rfl
theorem bd_45:bld Tryd.prog 45=some (#[.string (⟨#[]⟩:ByteArray),.bool false,.string (⟨#[]⟩:ByteArray),.string (⟨#[]⟩:ByteArray),.int .i64 0],[(0,1),(1,1),(2,1),(3,1),(4,1)]):=by kernel_rfl
theorem bd_47:bld Tryd.prog 47=some (#[.bool false,.string (⟨#[]⟩:ByteArray),.string (⟨#[]⟩:ByteArray),.string (⟨#[]⟩:ByteArray)],[(0,1),(1,1),(2,1),(3,1)]):=by kernel_rfl
theorem bd_56:bld Tryd.prog 56=some (#[.string (⟨#[]⟩:ByteArray),.bool false,.string (⟨#[]⟩:ByteArray),.int .i64 0,.int .i64 0,.int .i64 0,.int .i64 0],[(0,1),(1,1),(2,1),(3,1),(4,1),(5,1),(6,1)]):=by kernel_rfl
theorem Xgd:Xff Tryd.prog 108 1=some (5,1,#[.int .u8 0]):=by kernel_rfl
theorem Xdw:Xff Tryd.prog 108 2=some (5,1,#[.int .u8 0,.int .u8 0]):=by kernel_rfl
theorem Xcj:apK Tryd.prog 108=some (5,1,1):=by kernel_rfl
theorem bs_108_4:Xff Tryd.prog 108 4=some (5,1,#[.int .u8 0,.int .u8 0,.int .u8 0,.int .u8 0]):=by kernel_rfl
theorem u8_108:u8K Tryd.prog 108=true:=by kernel_rfl
theorem ld_84:ldK Tryd.prog 84=some (some 4):=by kernel_rfl
theorem Xez:zrK Tryd.prog 92=some [.slice none 0 0,.slice none 0 0,.slice none 0 0,.bool false]:=by kernel_rfl
theorem Xc4:mkK Tryd.prog 36=some (3,[.int .i64 0],8):=by kernel_rfl
theorem Xhd:bld Tryd.prog 92=some (#[.slice none 0 0,.slice none 0 0,.slice none 0 0,.bool false],[(0,1),(1,1),(2,1),(3,1)]):=by kernel_rfl
theorem Xc9:szK Tryd.prog 92=some 4:=by kernel_rfl
theorem zr_56:zrK Tryd.prog 56=some [.string (⟨#[]⟩:ByteArray),.bool false,.string (⟨#[]⟩:ByteArray),.int .i64 0,.int .i64 0,.int .i64 0,.int .i64 0]:=by kernel_rfl
theorem sz_56:szK Tryd.prog 56=some 7:=by kernel_rfl
theorem Xlf:Uk Tryd.prog 92 1=some 1:=by kernel_rfl
theorem Xm:ldK Tryd.prog 36=some none:=by kernel_rfl
theorem Xg7:ldK Tryd.prog 92=some (some 4):=by kernel_rfl
theorem Xib:Uk Tryd.prog 92 2=some 2:=by kernel_rfl
theorem Xim:Uk Tryd.prog 92 3=some 3:=by kernel_rfl
theorem Xep:szK Tryd.prog 4=some 1:=by kernel_rfl
theorem fd_92_3:fdK Tryd.prog 92 3=some (3,none):=by kernel_rfl
theorem fo_92_0:Uk Tryd.prog 92 0=some 0:=by kernel_rfl
theorem Zv:ldK Tryd.prog 26=some none:=by kernel_rfl
theorem Xl9:Uk Tryd.prog 70 3=some 3:=by kernel_rfl
theorem Xcc:ldK Tryd.prog 68=some none:=by kernel_rfl
theorem Xa:slE Tryd.prog 68=some (4,1):=by kernel_rfl
theorem Xi5:Uk Tryd.prog 70 2=some 2:=by kernel_rfl
theorem Xbg:ldK Tryd.prog 67=some none:=by kernel_rfl
theorem Wx:slE Tryd.prog 67=some (36,1):=by kernel_rfl
theorem Xlj:Uk Tryd.prog 70 1=some 1:=by kernel_rfl
theorem Zx:szK Tryd.prog 36=some 1:=by kernel_rfl
theorem ld_66:ldK Tryd.prog 66=some none:=by kernel_rfl
theorem ld_101:ldK Tryd.prog 101=some none:=by kernel_rfl
theorem fo_70_0:Uk Tryd.prog 70 0=some 0:=by kernel_rfl
theorem zr_101:zrK Tryd.prog 101=some [.nilFunc]:=by kernel_rfl
theorem sz_101:szK Tryd.prog 101=some 1:=by kernel_rfl
theorem ld_72:ldK Tryd.prog 72=some none:=by kernel_rfl
theorem mk_67:mkK Tryd.prog 67=some (36,[.slice none 0 0],24):=by kernel_rfl
theorem mk_68:mkK Tryd.prog 68=some (4,[.bool false],1):=by kernel_rfl
theorem bd_70:bld Tryd.prog 70=some (#[.slice none 0 0,.slice none 0 0,.slice none 0 0,.slice none 0 0],[(0,1),(1,1),(2,1),(3,1)]):=by kernel_rfl
theorem zr_36:zrK Tryd.prog 36=some [.slice none 0 0]:=by kernel_rfl
theorem zr_72:zrK Tryd.prog 72=some [.nilFunc]:=by kernel_rfl
theorem sz_72:szK Tryd.prog 72=some 1:=by kernel_rfl
theorem Xh0:Tryd.prog.underlying 31=some (.slice 38):=by kernel_rfl
theorem Xci:slE Tryd.prog 31=some (38,1):=by kernel_rfl
theorem Xam:Uk Tryd.prog 38 0=some 0:=by kernel_rfl
theorem eq_45:eqK Tryd.prog 45=some [(0,2),(1,0),(2,2),(3,2),(4,1)]:=by kernel_rfl
theorem eq_47:eqK Tryd.prog 47=some [(0,0),(1,2),(2,2),(3,2)]:=by kernel_rfl
theorem eq_56:eqK Tryd.prog 56=some [(0,2),(1,0),(2,2),(3,1),(4,1),(5,1),(6,1)]:=by kernel_rfl
theorem sz_9:szK Tryd.prog 9=some 1:=by kernel_rfl
end Go.Proofs.YtjookebbmfiidaaDoor.K
