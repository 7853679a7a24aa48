/- The kinds of this seat's values and closed facts on its types, printed by my own tool. No condition. -/
import Derived.Test.YtjookebbmfiidaaDoorBW
import Derived.Test.YtjookebbmfiidaaDoorR
import Derived.Test.YtjookebbmfiidaaDoorProg
import Derived.Test.YtjookebbmfiidaaDoorBG
import Derived.Test.YtjookebbmfiidaaDoorS
set_option linter.unusedVariables false
set_option maxRecDepth 100000
set_option maxHeartbeats 4000000
namespace Go.Proofs.YtjookebbmfiidaaDoor.K
open Go.Proofs.YtjookebbmfiidaaDoor.B Go.Proofs.YtjookebbmfiidaaDoor.R Go.RowKit
def Am (x:Ag):List Value:=[.string x.name,.bool x.lit,.string x.field,.string x.capture,.int .i64 x.kids]
theorem Ee:∀ x,(Am x).length=5:=fun _=>rfl
theorem Ez:∀ x,∀ u ∈ Am x,u.oneCell'=true:=fun x u hu=>List.all_eq_true.1 (show (Am x).all Value.oneCell'=true from rfl) u hu
abbrev Dl:Kd Ag:=Kd.flat 5 Am Ee Ez
def Y2 (x:Az):List Value:=[.string x.name,.bool x.named,.string x.field,.int .i64 x.from_,.int .i64 x.to,.int .i64 x.kids,.int .i64 x.leaf]
theorem V3:∀ x,(Y2 x).length=7:=fun _=>rfl
theorem V9:∀ x,∀ u ∈ Y2 x,u.oneCell'=true:=fun x u hu=>List.all_eq_true.1 (show (Y2 x).all Value.oneCell'=true from rfl) u hu
abbrev F8:Kd Az:=Kd.flat 7 Y2 V3 V9
def Bj (x:Bh):List Value:=[.bool x.not,.string x.a,.string x.b,.string x.text]
theorem Tc:∀ x,(Bj x).length=4:=fun _=>rfl
theorem Ti:∀ x,∀ u ∈ Bj x,u.oneCell'=true:=fun x u hu=>List.all_eq_true.1 (show (Bj x).all Value.oneCell'=true from rfl) u hu
abbrev Gg:Kd Bh:=Kd.flat 4 Bj Tc Ti
def Xku:Kd Ar:={ sz:=2,K:=(fun w F x cs=>∃ (A0:Option Addr),∃ (n0:Nat),∃ (c0:Nat),∃ (A1:Option Addr),∃ (n1:Nat),∃ (c1:Nat),cs=[.slice A0 n0 c0,.slice A1 n1 c1]∧Rw Dl w F A0 n0 c0 x.nodes∧Rw Gg w F A1 n1 c1 x.conds),len:=(by rintro w F x cs ⟨_,_,_,_,_,_,rfl,_⟩; rfl),one:=(by rintro w F x cs ⟨_,_,_,_,_,_,rfl,_⟩; exact fun u hu=>List.all_eq_true.1 rfl u hu),mono:=(by rintro w w' F F' x cs ⟨_,_,_,_,_,_,rfl,h0,h1⟩ hF; exact ⟨_,_,_,_,_,_,rfl,h0.mono hF,h1.mono hF⟩) }
def D9 (x:Ak):List Value:=[.int .i64 x.kind,.string x.text,.int .i64 x.n,.int .i64 x.at_]
theorem Ei:∀ x,(D9 x).length=4:=fun _=>rfl
theorem Eh:∀ x,∀ u ∈ D9 x,u.oneCell'=true:=fun x u hu=>List.all_eq_true.1 (show (D9 x).all Value.oneCell'=true from rfl) u hu
abbrev D5:Kd Ak:=Kd.flat 4 D9 Ei Eh
def Dy:Kd Bq:={ sz:=1,K:=(fun w F x cs=>∃ (A0:Option Addr),∃ (n0:Nat),∃ (c0:Nat),cs=[.slice A0 n0 c0]∧Rw (G8 .i64) w F A0 n0 c0 x.nodes),len:=(by rintro w F x cs ⟨_,_,_,rfl,_⟩; rfl),one:=(by rintro w F x cs ⟨_,_,_,rfl,_⟩; exact fun u hu=>List.all_eq_true.1 rfl u hu),mono:=(by rintro w w' F F' x cs ⟨_,_,_,rfl,h0⟩ hF; exact ⟨_,_,_,rfl,h0.mono hF⟩) }
theorem mix:Tryd.prog.follows .mixedOrders=true:=by kernel_rfl
theorem Xas:Tryd.prog.underlying 22=some (.slice 45):=by kernel_rfl
theorem Jc:Tryd.prog.underlying 36=some (.slice 3):=by kernel_rfl
theorem U7:slE Tryd.prog 22=some (45,5):=by kernel_rfl
theorem Uj:Q9 Tryd.prog 45 4=some 4:=by kernel_rfl
theorem H9:ldK Tryd.prog 3=some none:=by kernel_rfl
theorem Rx:Xcr Tryd.prog 36 1=some (3,1,#[.int .i64 0]):=by kernel_rfl
theorem Zg:apK Tryd.prog 36=some (3,1,8):=by kernel_rfl
theorem Jt:slE Tryd.prog 36=some (3,1):=by kernel_rfl
theorem Xar:szK Tryd.prog 3=some 1:=by kernel_rfl
theorem Xco:Tryd.prog.underlying 26=some (.slice 56):=by kernel_rfl
theorem Xhn:slE Tryd.prog 26=some (56,7):=by kernel_rfl
theorem Xg5:Q9 Tryd.prog 56 5=some 5:=by kernel_rfl
theorem Xi1:zrK Tryd.prog 25=some [.slice none 0 0,.slice none 0 0]:=by kernel_rfl
theorem J4:Q9 Tryd.prog 25 0=some 0:=by kernel_rfl
theorem Rl:ldK Tryd.prog 22=some none:=by kernel_rfl
theorem Xav:ldK Tryd.prog 45=some (some 5):=by kernel_rfl
theorem Xg3:Xcr Tryd.prog 22 1=some (45,5,#[.string (⟨#[]⟩:ByteArray),.bool false,.string (⟨#[]⟩:ByteArray),.string (⟨#[]⟩:ByteArray),.int .i64 0]):=by kernel_rfl
theorem ap_22:apK Tryd.prog 22=some (45,5,64):=by kernel_rfl
theorem sz_22:szK Tryd.prog 22=some 1:=by kernel_rfl
theorem U0:Q9 Tryd.prog 25 1=some 1:=by kernel_rfl
theorem Xck:ldK Tryd.prog 23=some none:=by kernel_rfl
theorem Xhd:Tryd.prog.underlying 23=some (.slice 47):=by kernel_rfl
theorem Xlz:slE Tryd.prog 23=some (47,4):=by kernel_rfl
theorem Xif:ldK Tryd.prog 47=some (some 4):=by kernel_rfl
theorem Xk0:Xcr Tryd.prog 23 1=some (47,4,#[.bool false,.string (⟨#[]⟩:ByteArray),.string (⟨#[]⟩:ByteArray),.string (⟨#[]⟩:ByteArray)]):=by kernel_rfl
theorem ap_23:apK Tryd.prog 23=some (47,4,56):=by kernel_rfl
theorem sz_23:szK Tryd.prog 23=some 1:=by kernel_rfl
theorem U4:ldK Tryd.prog 25=some (some 2):=by kernel_rfl
theorem Xh8:szK Tryd.prog 25=some 2:=by kernel_rfl
theorem ld_56:ldK Tryd.prog 56=some (some 7):=by kernel_rfl
theorem Nl:Tryd.prog.underlying 9=some (.string):=by kernel_rfl
theorem Ve:Q9 Tryd.prog 84 0=some 0:=by kernel_rfl
theorem Xb3:ldK Tryd.prog 79=some none:=by kernel_rfl
theorem Kt:Q9 Tryd.prog 84 1=some 1:=by kernel_rfl
theorem Ib:ldK Tryd.prog 9=some none:=by kernel_rfl
theorem Xjw:Q9 Tryd.prog 84 2=some 2:=by kernel_rfl
theorem Xgp:bld Tryd.prog 84=some (#[.int .i64 0,.string (⟨#[]⟩:ByteArray),.int .i64 0,.int .i64 0],[(0,1),(1,1),(2,1),(3,1)]):=by kernel_rfl
theorem Vp:Q9 Tryd.prog 45 3=some 3:=by kernel_rfl
theorem Xi4:zrK Tryd.prog 45=some [.string (⟨#[]⟩:ByteArray),.bool false,.string (⟨#[]⟩:ByteArray),.string (⟨#[]⟩:ByteArray),.int .i64 0]:=by kernel_rfl
theorem Xfj:szK Tryd.prog 45=some 5:=by kernel_rfl
theorem Zl:Q9 Tryd.prog 45 1=some 1:=by kernel_rfl
theorem Xcy:ldK Tryd.prog 4=some none:=by kernel_rfl
theorem Vt:Q9 Tryd.prog 45 0=some 0:=by kernel_rfl
theorem Vb:Q9 Tryd.prog 45 2=some 2:=by kernel_rfl
theorem zr_47:zrK Tryd.prog 47=some [.bool false,.string (⟨#[]⟩:ByteArray),.string (⟨#[]⟩:ByteArray),.string (⟨#[]⟩:ByteArray)]:=by kernel_rfl
theorem sz_47:szK Tryd.prog 47=some 4:=by kernel_rfl
theorem Xdg:Q9 Tryd.prog 47 1=some 1:=by kernel_rfl
theorem Xak:Q9 Tryd.prog 47 2=some 2:=by kernel_rfl
theorem Xg4:Q9 Tryd.prog 47 3=some 3:=by kernel_rfl
theorem Xiz:Q9 Tryd.prog 56 2=some 2:=by kernel_rfl
theorem Xn3:Q9 Tryd.prog 56 1=some 1:=by kernel_rfl
theorem Xn2:Q9 Tryd.prog 56 0=some 0:=by kernel_rfl
theorem fo_56_3:Q9 Tryd.prog 56 3=some 3:=by kernel_rfl
theorem fo_56_4:Q9 Tryd.prog 56 4=some 4:=by kernel_rfl
theorem Xfz:Q9 Tryd.prog 47 0=some 0:=by kernel_rfl
theorem un_4:Tryd.prog.underlying 4=some (.bool):=by kernel_rfl
theorem bd_38:bld Tryd.prog 38=some (#[.slice none 0 0],[(0,1)]):=by kernel_rfl
theorem Xmk:Xcr Tryd.prog 31 1=some (38,1,#[.slice none 0 0]):=by kernel_rfl
theorem ap_31:apK Tryd.prog 31=some (38,1,24):=by kernel_rfl
theorem bd_45:bld Tryd.prog 45=some (#[.string (⟨#[]⟩:ByteArray),.bool false,.string (⟨#[]⟩:ByteArray),.string (⟨#[]⟩:ByteArray),.int .i64 0],[(0,1),(1,1),(2,1),(3,1),(4,1)]):=by kernel_rfl
theorem bd_56:bld Tryd.prog 56=some (#[.string (⟨#[]⟩:ByteArray),.bool false,.string (⟨#[]⟩:ByteArray),.int .i64 0,.int .i64 0,.int .i64 0,.int .i64 0],[(0,1),(1,1),(2,1),(3,1),(4,1),(5,1),(6,1)]):=by kernel_rfl
theorem Xbg:Xcr Tryd.prog 108 1=some (5,1,#[.int .u8 0]):=by kernel_rfl
theorem Xdm:Xcr Tryd.prog 108 2=some (5,1,#[.int .u8 0,.int .u8 0]):=by kernel_rfl
theorem Xaq:apK Tryd.prog 108=some (5,1,1):=by kernel_rfl
theorem bs_108_4:Xcr Tryd.prog 108 4=some (5,1,#[.int .u8 0,.int .u8 0,.int .u8 0,.int .u8 0]):=by kernel_rfl
theorem Xlc:u8K Tryd.prog 108=true:=by kernel_rfl
theorem ld_84:ldK Tryd.prog 84=some (some 4):=by kernel_rfl
theorem Xfe:zrK Tryd.prog 92=some [.slice none 0 0,.slice none 0 0,.slice none 0 0,.bool false]:=by kernel_rfl
theorem Xcp:mkK Tryd.prog 36=some (3,[.int .i64 0],8):=by kernel_rfl
theorem Xig:bld Tryd.prog 92=some (#[.slice none 0 0,.slice none 0 0,.slice none 0 0,.bool false],[(0,1),(1,1),(2,1),(3,1)]):=by kernel_rfl
theorem Xcl:szK Tryd.prog 92=some 4:=by kernel_rfl
theorem zr_56:zrK Tryd.prog 56=some [.string (⟨#[]⟩:ByteArray),.bool false,.string (⟨#[]⟩:ByteArray),.int .i64 0,.int .i64 0,.int .i64 0,.int .i64 0]:=by kernel_rfl
theorem sz_56:szK Tryd.prog 56=some 7:=by kernel_rfl
theorem Xmd:Q9 Tryd.prog 92 1=some 1:=by kernel_rfl
theorem Y0:ldK Tryd.prog 36=some none:=by kernel_rfl
theorem Xgg:ldK Tryd.prog 92=some (some 4):=by kernel_rfl
theorem Xjz:Q9 Tryd.prog 92 2=some 2:=by kernel_rfl
theorem Xjx:Q9 Tryd.prog 92 3=some 3:=by kernel_rfl
theorem Xcx:szK Tryd.prog 4=some 1:=by kernel_rfl
theorem fd_92_3:fdK Tryd.prog 92 3=some (3,none):=by kernel_rfl
theorem fo_92_0:Q9 Tryd.prog 92 0=some 0:=by kernel_rfl
theorem Zz:ldK Tryd.prog 26=some none:=by kernel_rfl
theorem Xn5:Q9 Tryd.prog 70 3=some 3:=by kernel_rfl
theorem Xch:ldK Tryd.prog 68=some none:=by kernel_rfl
theorem Wu:slE Tryd.prog 68=some (4,1):=by kernel_rfl
theorem Xjk:Q9 Tryd.prog 70 2=some 2:=by kernel_rfl
theorem Xb9:ldK Tryd.prog 67=some none:=by kernel_rfl
theorem Vg:slE Tryd.prog 67=some (36,1):=by kernel_rfl
theorem Xn0:Q9 Tryd.prog 70 1=some 1:=by kernel_rfl
theorem Xa6:szK Tryd.prog 36=some 1:=by kernel_rfl
theorem ld_66:ldK Tryd.prog 66=some none:=by kernel_rfl
theorem ld_101:ldK Tryd.prog 101=some none:=by kernel_rfl
theorem fo_70_0:Q9 Tryd.prog 70 0=some 0:=by kernel_rfl
theorem zr_101:zrK Tryd.prog 101=some [.nilFunc]:=by kernel_rfl
theorem sz_101:szK Tryd.prog 101=some 1:=by kernel_rfl
theorem ld_72:ldK Tryd.prog 72=some none:=by kernel_rfl
theorem mk_67:mkK Tryd.prog 67=some (36,[.slice none 0 0],24):=by kernel_rfl
theorem mk_68:mkK Tryd.prog 68=some (4,[.bool false],1):=by kernel_rfl
theorem bd_70:bld Tryd.prog 70=some (#[.slice none 0 0,.slice none 0 0,.slice none 0 0,.slice none 0 0],[(0,1),(1,1),(2,1),(3,1)]):=by kernel_rfl
theorem zr_36:zrK Tryd.prog 36=some [.slice none 0 0]:=by kernel_rfl
theorem zr_72:zrK Tryd.prog 72=some [.nilFunc]:=by kernel_rfl
theorem sz_72:szK Tryd.prog 72=some 1:=by kernel_rfl
theorem Xgj:Tryd.prog.underlying 31=some (.slice 38):=by kernel_rfl
theorem Xev:slE Tryd.prog 31=some (38,1):=by kernel_rfl
theorem Xc1:Q9 Tryd.prog 38 0=some 0:=by kernel_rfl
theorem sz_9:szK Tryd.prog 9=some 1:=by kernel_rfl
theorem Xc5:Xcr Tryd.prog 75 1=some (84,4,#[.int .i64 0,.string (⟨#[]⟩:ByteArray),.int .i64 0,.int .i64 0]):=by kernel_rfl
theorem Zh:Tryd.prog.underlying 75=some (.slice 84):=by kernel_rfl
theorem Qj:slE Tryd.prog 75=some (84,4):=by kernel_rfl
theorem Xie:apK Tryd.prog 75=some (84,4,40):=by kernel_rfl
theorem Np:ldK Tryd.prog 75=some none:=by kernel_rfl
theorem sz_75:szK Tryd.prog 75=some 1:=by kernel_rfl
theorem Xk:ldK Tryd.prog 85=some none:=by kernel_rfl
theorem ld_1:ldK Tryd.prog 1=some none:=by kernel_rfl
theorem zr_84:zrK Tryd.prog 84=some [.int .i64 0,.string (⟨#[]⟩:ByteArray),.int .i64 0,.int .i64 0]:=by kernel_rfl
theorem sz_84:szK Tryd.prog 84=some 4:=by kernel_rfl
theorem bs_106_1:Xcr Tryd.prog 106 1=some (9,1,#[.string (⟨#[]⟩:ByteArray)]):=by kernel_rfl
theorem ap_106:apK Tryd.prog 106=some (9,1,16):=by kernel_rfl
theorem zr_75:zrK Tryd.prog 75=some [.slice none 0 0]:=by kernel_rfl
theorem zr_85:zrK Tryd.prog 85=some [.nilFunc]:=by kernel_rfl
theorem sz_85:szK Tryd.prog 85=some 1:=by kernel_rfl
theorem zr_3:zrK Tryd.prog 3=some [.int .i64 0]:=by kernel_rfl
theorem zr_1:zrK Tryd.prog 1=some [.nilFunc]:=by kernel_rfl
theorem sz_1:szK Tryd.prog 1=some 1:=by kernel_rfl
theorem slE_108:slE Tryd.prog 108=some (5,1):=by kernel_rfl
theorem un_5:Tryd.prog.underlying 5=some (.int .u8):=by kernel_rfl
theorem un_3:Tryd.prog.underlying 3=some (.int .i64):=by kernel_rfl
theorem Hr:Q9 Tryd.prog 90 0=some 0:=by kernel_rfl
theorem Eg:Q9 Tryd.prog 90 1=some 1:=by kernel_rfl
theorem Ql:Q9 Tryd.prog 90 4=some 5:=by kernel_rfl
theorem Z4:ldK Tryd.prog 40=some none:=by kernel_rfl
theorem fo_90_2:Q9 Tryd.prog 90 2=some 2:=by kernel_rfl
theorem sz_40:szK Tryd.prog 40=some 1:=by kernel_rfl
theorem Xjp:Q9 Tryd.prog 90 5=some 6:=by kernel_rfl
theorem fo_84_3:Q9 Tryd.prog 84 3=some 3:=by kernel_rfl
theorem P9:Q9 Tryd.prog 90 3=some 3:=by kernel_rfl
theorem bd_90:bld Tryd.prog 90=some (#[.slice none 0 0,.int .i64 0,.int .i64 0,.slice none 0 0,.slice none 0 0,.int .i64 0,.int .i64 0],[(0,1),(1,1),(2,1),(3,2),(5,1),(6,1)]):=by kernel_rfl
theorem bd_25:bld Tryd.prog 25=some (#[.slice none 0 0,.slice none 0 0],[(0,1),(1,1)]):=by kernel_rfl
theorem bs_26_3:Xcr Tryd.prog 26 3=some (56,7,#[.string (⟨#[]⟩:ByteArray),.bool false,.string (⟨#[]⟩:ByteArray),.int .i64 0,.int .i64 0,.int .i64 0,.int .i64 0,.string (⟨#[]⟩:ByteArray),.bool false,.string (⟨#[]⟩:ByteArray),.int .i64 0,.int .i64 0,.int .i64 0,.int .i64 0,.string (⟨#[]⟩:ByteArray),.bool false,.string (⟨#[]⟩:ByteArray),.int .i64 0,.int .i64 0,.int .i64 0,.int .i64 0]):=by kernel_rfl
theorem bs_36_2:Xcr Tryd.prog 36 2=some (3,1,#[.int .i64 0,.int .i64 0]):=by kernel_rfl
theorem bs_57_1:Xcr Tryd.prog 57 1=some (31,1,#[.slice none 0 0]):=by kernel_rfl
theorem ap_57:apK Tryd.prog 57=some (31,1,24):=by kernel_rfl
theorem un_57:Tryd.prog.underlying 57=some (.slice 31):=by kernel_rfl
theorem slE_57:slE Tryd.prog 57=some (31,1):=by kernel_rfl
theorem ld_31:ldK Tryd.prog 31=some none:=by kernel_rfl
end Go.Proofs.YtjookebbmfiidaaDoor.K
