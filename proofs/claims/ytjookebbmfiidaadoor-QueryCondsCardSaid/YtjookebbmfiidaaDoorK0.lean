/- The kinds of this seat's values and closed facts on its types, printed by my own tool. No condition. -/
import Derived.Test.YtjookebbmfiidaaDoorBW
import Derived.Test.YtjookebbmfiidaaDoorR
import Derived.Test.YtjookebbmfiidaaDoorProg
import Derived.Test.YtjookebbmfiidaaDoorBG
import Derived.Test.YtjookebbmfiidaaDoorS
set_option linter.unusedVariables false
set_option maxRecDepth 100000
set_option maxHeartbeats 4000000
namespace Go.Proofs.YtjookebbmfiidaaDoor.K
open Go.Proofs.YtjookebbmfiidaaDoor.B Go.Proofs.YtjookebbmfiidaaDoor.R Go.RowKit
def Au (x:Ag):List Value:=[.string x.name,.bool x.lit,.string x.field,.string x.capture,.int .i64 x.kids]
theorem Gh:∀ x,(Au x).length=5:=fun _=>rfl
theorem I9:∀ x,∀ u ∈ Au x,u.oneCell'=true:=fun x u hu=>List.all_eq_true.1 (show (Au x).all Value.oneCell'=true from rfl) u hu
abbrev Dn:Kd Ag:=Kd.flat 5 Au Gh I9
def Xw (x:Az):List Value:=[.string x.name,.bool x.named,.string x.field,.int .i64 x.from_,.int .i64 x.to,.int .i64 x.kids,.int .i64 x.leaf]
theorem Qc:∀ x,(Xw x).length=7:=fun _=>rfl
theorem Q7:∀ x,∀ u ∈ Xw x,u.oneCell'=true:=fun x u hu=>List.all_eq_true.1 (show (Xw x).all Value.oneCell'=true from rfl) u hu
abbrev Ew:Kd Az:=Kd.flat 7 Xw Qc Q7
def Bj (x:Bh):List Value:=[.bool x.not,.string x.a,.string x.b,.string x.text]
theorem Q9:∀ x,(Bj x).length=4:=fun _=>rfl
theorem Q8:∀ x,∀ u ∈ Bj x,u.oneCell'=true:=fun x u hu=>List.all_eq_true.1 (show (Bj x).all Value.oneCell'=true from rfl) u hu
abbrev Fv:Kd Bh:=Kd.flat 4 Bj Q9 Q8
def Xkn:Kd Ar:={ sz:=2,K:=(fun w F x cs=>∃ (A0:Option Addr),∃ (n0:Nat),∃ (c0:Nat),∃ (A1:Option Addr),∃ (n1:Nat),∃ (c1:Nat),cs=[.slice A0 n0 c0,.slice A1 n1 c1]∧Rw Dn w F A0 n0 c0 x.nodes∧Rw Fv w F A1 n1 c1 x.conds),len:=(by rintro w F x cs ⟨_,_,_,_,_,_,rfl,_⟩; rfl),one:=(by rintro w F x cs ⟨_,_,_,_,_,_,rfl,_⟩; exact fun u hu=>List.all_eq_true.1 rfl u hu),mono:=(by rintro w w' F F' x cs ⟨_,_,_,_,_,_,rfl,h0,h1⟩ hF; exact ⟨_,_,_,_,_,_,rfl,h0.mono hF,h1.mono hF⟩) }
def D6 (x:Ak):List Value:=[.int .i64 x.kind,.string x.text,.int .i64 x.n,.int .i64 x.at_]
theorem Ee:∀ x,(D6 x).length=4:=fun _=>rfl
theorem Ef:∀ x,∀ u ∈ D6 x,u.oneCell'=true:=fun x u hu=>List.all_eq_true.1 (show (D6 x).all Value.oneCell'=true from rfl) u hu
abbrev Cf:Kd Ak:=Kd.flat 4 D6 Ee Ef
def G9:Kd Cj:={ sz:=1,K:=(fun w F x cs=>∃ (A0:Option Addr),∃ (n0:Nat),∃ (c0:Nat),cs=[.slice A0 n0 c0]∧Rw (Gq .i64) w F A0 n0 c0 x.nodes),len:=(by rintro w F x cs ⟨_,_,_,rfl,_⟩; rfl),one:=(by rintro w F x cs ⟨_,_,_,rfl,_⟩; exact fun u hu=>List.all_eq_true.1 rfl u hu),mono:=(by rintro w w' F F' x cs ⟨_,_,_,rfl,h0⟩ hF; exact ⟨_,_,_,rfl,h0.mono hF⟩) }
theorem mix:Tryd.prog.follows .mixedOrders=true:=by kernel_rfl
theorem Zq:Tryd.prog.underlying 22=some (.slice 45):=by kernel_rfl
theorem La:Tryd.prog.underlying 36=some (.slice 3):=by kernel_rfl
theorem Xk:slE Tryd.prog 22=some (45,5):=by kernel_rfl
theorem Xz:Q5 Tryd.prog 45 4=some 4:=by kernel_rfl
theorem H5:ldK Tryd.prog 3=some none:=by kernel_rfl
theorem Vj:Xde Tryd.prog 36 1=some (3,1,#[.int .i64 0]):=by kernel_rfl
theorem Xai:apK Tryd.prog 36=some (3,1,8):=by kernel_rfl
theorem L8:slE Tryd.prog 36=some (3,1):=by kernel_rfl
theorem Xal:szK Tryd.prog 3=some 1:=by kernel_rfl
theorem Xb8:Tryd.prog.underlying 26=some (.slice 56):=by kernel_rfl
theorem Xcq:slE Tryd.prog 26=some (56,7):=by kernel_rfl
theorem Xfm:Q5 Tryd.prog 56 5=some 5:=by kernel_rfl
theorem zr_25:zrK Tryd.prog 25=some [.slice none 0 0,.slice none 0 0]:=by kernel_rfl
theorem Kr:Q5 Tryd.prog 25 0=some 0:=by kernel_rfl
theorem Tq:ldK Tryd.prog 22=some none:=by kernel_rfl
theorem Xey:ldK Tryd.prog 45=some (some 5):=by kernel_rfl
theorem bs_22_1:Xde Tryd.prog 22 1=some (45,5,#[.string (⟨#[]⟩:ByteArray),.bool false,.string (⟨#[]⟩:ByteArray),.string (⟨#[]⟩:ByteArray),.int .i64 0]):=by kernel_rfl
theorem ap_22:apK Tryd.prog 22=some (45,5,64):=by kernel_rfl
theorem sz_22:szK Tryd.prog 22=some 1:=by kernel_rfl
theorem Qj:Q5 Tryd.prog 25 1=some 1:=by kernel_rfl
theorem Xaj:ldK Tryd.prog 23=some none:=by kernel_rfl
theorem Xf1:Tryd.prog.underlying 23=some (.slice 47):=by kernel_rfl
theorem Xiy:slE Tryd.prog 23=some (47,4):=by kernel_rfl
theorem Xgg:ldK Tryd.prog 47=some (some 4):=by kernel_rfl
theorem Xjg:Xde Tryd.prog 23 1=some (47,4,#[.bool false,.string (⟨#[]⟩:ByteArray),.string (⟨#[]⟩:ByteArray),.string (⟨#[]⟩:ByteArray)]):=by kernel_rfl
theorem ap_23:apK Tryd.prog 23=some (47,4,56):=by kernel_rfl
theorem sz_23:szK Tryd.prog 23=some 1:=by kernel_rfl
theorem V5:ldK Tryd.prog 25=some (some 2):=by kernel_rfl
theorem sz_25:szK Tryd.prog 25=some 2:=by kernel_rfl
theorem Xkr:ldK Tryd.prog 56=some (some 7):=by kernel_rfl
theorem Lp:Tryd.prog.underlying 9=some (.string):=by kernel_rfl
theorem Vf:Q5 Tryd.prog 84 0=some 0:=by kernel_rfl
theorem Xbd:ldK Tryd.prog 79=some none:=by kernel_rfl
theorem Ju:Q5 Tryd.prog 84 1=some 1:=by kernel_rfl
theorem H8:ldK Tryd.prog 9=some none:=by kernel_rfl
theorem Xig:Q5 Tryd.prog 84 2=some 2:=by kernel_rfl
theorem Xgi:bld Tryd.prog 84=some (#[.int .i64 0,.string (⟨#[]⟩:ByteArray),.int .i64 0,.int .i64 0],[(0,1),(1,1),(2,1),(3,1)]):=by kernel_rfl
theorem Uc:Q5 Tryd.prog 45 3=some 3:=by kernel_rfl
theorem Xjx:zrK Tryd.prog 45=some [.string (⟨#[]⟩:ByteArray),.bool false,.string (⟨#[]⟩:ByteArray),.string (⟨#[]⟩:ByteArray),.int .i64 0]:=by kernel_rfl
theorem Xgn:szK Tryd.prog 45=some 5:=by kernel_rfl
theorem Z7:Q5 Tryd.prog 45 1=some 1:=by kernel_rfl
theorem Xc5:ldK Tryd.prog 4=some none:=by kernel_rfl
theorem Vp:Q5 Tryd.prog 45 0=some 0:=by kernel_rfl
theorem Vg:Q5 Tryd.prog 45 2=some 2:=by kernel_rfl
theorem zr_47:zrK Tryd.prog 47=some [.bool false,.string (⟨#[]⟩:ByteArray),.string (⟨#[]⟩:ByteArray),.string (⟨#[]⟩:ByteArray)]:=by kernel_rfl
theorem sz_47:szK Tryd.prog 47=some 4:=by kernel_rfl
theorem Xbm:Q5 Tryd.prog 47 1=some 1:=by kernel_rfl
theorem X3:Q5 Tryd.prog 47 2=some 2:=by kernel_rfl
theorem Xdd:Q5 Tryd.prog 47 3=some 3:=by kernel_rfl
theorem Xiz:Q5 Tryd.prog 56 2=some 2:=by kernel_rfl
theorem Xmj:Q5 Tryd.prog 56 1=some 1:=by kernel_rfl
theorem Xm6:Q5 Tryd.prog 56 0=some 0:=by kernel_rfl
theorem Xm9:Q5 Tryd.prog 56 3=some 3:=by kernel_rfl
theorem Xm4:Q5 Tryd.prog 56 4=some 4:=by kernel_rfl
theorem Xda:Q5 Tryd.prog 47 0=some 0:=by kernel_rfl
theorem un_4:Tryd.prog.underlying 4=some (.bool):=by kernel_rfl
theorem bd_38:bld Tryd.prog 38=some (#[.slice none 0 0],[(0,1)]):=by kernel_rfl
theorem Xml:Xde Tryd.prog 31 1=some (38,1,#[.slice none 0 0]):=by kernel_rfl
theorem ap_31:apK Tryd.prog 31=some (38,1,24):=by kernel_rfl
theorem bd_45:bld Tryd.prog 45=some (#[.string (⟨#[]⟩:ByteArray),.bool false,.string (⟨#[]⟩:ByteArray),.string (⟨#[]⟩:ByteArray),.int .i64 0],[(0,1),(1,1),(2,1),(3,1),(4,1)]):=by kernel_rfl
theorem bd_56:bld Tryd.prog 56=some (#[.string (⟨#[]⟩:ByteArray),.bool false,.string (⟨#[]⟩:ByteArray),.int .i64 0,.int .i64 0,.int .i64 0,.int .i64 0],[(0,1),(1,1),(2,1),(3,1),(4,1),(5,1),(6,1)]):=by kernel_rfl
theorem Xbc:Xde Tryd.prog 108 1=some (5,1,#[.int .u8 0]):=by kernel_rfl
theorem Xdl:Xde Tryd.prog 108 2=some (5,1,#[.int .u8 0,.int .u8 0]):=by kernel_rfl
theorem Xa7:apK Tryd.prog 108=some (5,1,1):=by kernel_rfl
theorem bs_108_4:Xde Tryd.prog 108 4=some (5,1,#[.int .u8 0,.int .u8 0,.int .u8 0,.int .u8 0]):=by kernel_rfl
theorem Xlr:u8K Tryd.prog 108=true:=by kernel_rfl
theorem ld_84:ldK Tryd.prog 84=some (some 4):=by kernel_rfl
theorem Xf9:zrK Tryd.prog 92=some [.slice none 0 0,.slice none 0 0,.slice none 0 0,.bool false]:=by kernel_rfl
theorem Xc9:mkK Tryd.prog 36=some (3,[.int .i64 0],8):=by kernel_rfl
theorem Xhu:bld Tryd.prog 92=some (#[.slice none 0 0,.slice none 0 0,.slice none 0 0,.bool false],[(0,1),(1,1),(2,1),(3,1)]):=by kernel_rfl
theorem Xc7:szK Tryd.prog 92=some 4:=by kernel_rfl
theorem zr_56:zrK Tryd.prog 56=some [.string (⟨#[]⟩:ByteArray),.bool false,.string (⟨#[]⟩:ByteArray),.int .i64 0,.int .i64 0,.int .i64 0,.int .i64 0]:=by kernel_rfl
theorem sz_56:szK Tryd.prog 56=some 7:=by kernel_rfl
theorem Xmd:Q5 Tryd.prog 92 1=some 1:=by kernel_rfl
theorem Xq:ldK Tryd.prog 36=some none:=by kernel_rfl
theorem Xfx:ldK Tryd.prog 92=some (some 4):=by kernel_rfl
theorem Xin:Q5 Tryd.prog 92 2=some 2:=by kernel_rfl
theorem Xja:Q5 Tryd.prog 92 3=some 3:=by kernel_rfl
theorem Xcm:szK Tryd.prog 4=some 1:=by kernel_rfl
theorem fd_92_3:fdK Tryd.prog 92 3=some (3,none):=by kernel_rfl
theorem fo_92_0:Q5 Tryd.prog 92 0=some 0:=by kernel_rfl
theorem Zz:ldK Tryd.prog 26=some none:=by kernel_rfl
theorem Xm2:Q5 Tryd.prog 70 3=some 3:=by kernel_rfl
theorem Xcb:ldK Tryd.prog 68=some none:=by kernel_rfl
theorem Wh:slE Tryd.prog 68=some (4,1):=by kernel_rfl
theorem Xj8:Q5 Tryd.prog 70 2=some 2:=by kernel_rfl
theorem Xb5:ldK Tryd.prog 67=some none:=by kernel_rfl
theorem V9:slE Tryd.prog 67=some (36,1):=by kernel_rfl
theorem Xmo:Q5 Tryd.prog 70 1=some 1:=by kernel_rfl
theorem Xa0:szK Tryd.prog 36=some 1:=by kernel_rfl
theorem ld_66:ldK Tryd.prog 66=some none:=by kernel_rfl
theorem ld_101:ldK Tryd.prog 101=some none:=by kernel_rfl
theorem fo_70_0:Q5 Tryd.prog 70 0=some 0:=by kernel_rfl
theorem zr_101:zrK Tryd.prog 101=some [.nilFunc]:=by kernel_rfl
theorem sz_101:szK Tryd.prog 101=some 1:=by kernel_rfl
theorem ld_72:ldK Tryd.prog 72=some none:=by kernel_rfl
theorem mk_67:mkK Tryd.prog 67=some (36,[.slice none 0 0],24):=by kernel_rfl
theorem mk_68:mkK Tryd.prog 68=some (4,[.bool false],1):=by kernel_rfl
theorem bd_70:bld Tryd.prog 70=some (#[.slice none 0 0,.slice none 0 0,.slice none 0 0,.slice none 0 0],[(0,1),(1,1),(2,1),(3,1)]):=by kernel_rfl
theorem zr_36:zrK Tryd.prog 36=some [.slice none 0 0]:=by kernel_rfl
theorem zr_72:zrK Tryd.prog 72=some [.nilFunc]:=by kernel_rfl
theorem sz_72:szK Tryd.prog 72=some 1:=by kernel_rfl
theorem Xgj:Tryd.prog.underlying 31=some (.slice 38):=by kernel_rfl
theorem Xcv:slE Tryd.prog 31=some (38,1):=by kernel_rfl
theorem Xbj:Q5 Tryd.prog 38 0=some 0:=by kernel_rfl
theorem sz_9:szK Tryd.prog 9=some 1:=by kernel_rfl
theorem Xbi:Xde Tryd.prog 75 1=some (84,4,#[.int .i64 0,.string (⟨#[]⟩:ByteArray),.int .i64 0,.int .i64 0]):=by kernel_rfl
theorem Z5:Tryd.prog.underlying 75=some (.slice 84):=by kernel_rfl
theorem Qd:slE Tryd.prog 75=some (84,4):=by kernel_rfl
theorem Xhy:apK Tryd.prog 75=some (84,4,40):=by kernel_rfl
theorem Nc:ldK Tryd.prog 75=some none:=by kernel_rfl
theorem sz_75:szK Tryd.prog 75=some 1:=by kernel_rfl
theorem X7:ldK Tryd.prog 85=some none:=by kernel_rfl
theorem ld_1:ldK Tryd.prog 1=some none:=by kernel_rfl
theorem zr_84:zrK Tryd.prog 84=some [.int .i64 0,.string (⟨#[]⟩:ByteArray),.int .i64 0,.int .i64 0]:=by kernel_rfl
theorem sz_84:szK Tryd.prog 84=some 4:=by kernel_rfl
theorem bs_106_1:Xde Tryd.prog 106 1=some (9,1,#[.string (⟨#[]⟩:ByteArray)]):=by kernel_rfl
theorem ap_106:apK Tryd.prog 106=some (9,1,16):=by kernel_rfl
theorem zr_75:zrK Tryd.prog 75=some [.slice none 0 0]:=by kernel_rfl
theorem zr_85:zrK Tryd.prog 85=some [.nilFunc]:=by kernel_rfl
theorem sz_85:szK Tryd.prog 85=some 1:=by kernel_rfl
theorem zr_3:zrK Tryd.prog 3=some [.int .i64 0]:=by kernel_rfl
theorem zr_1:zrK Tryd.prog 1=some [.nilFunc]:=by kernel_rfl
theorem sz_1:szK Tryd.prog 1=some 1:=by kernel_rfl
theorem slE_108:slE Tryd.prog 108=some (5,1):=by kernel_rfl
theorem un_5:Tryd.prog.underlying 5=some (.int .u8):=by kernel_rfl
theorem un_3:Tryd.prog.underlying 3=some (.int .i64):=by kernel_rfl
theorem H7:Q5 Tryd.prog 90 0=some 0:=by kernel_rfl
theorem Ec:Q5 Tryd.prog 90 1=some 1:=by kernel_rfl
theorem Qq:Q5 Tryd.prog 90 4=some 5:=by kernel_rfl
theorem Yp:ldK Tryd.prog 40=some none:=by kernel_rfl
theorem fo_90_2:Q5 Tryd.prog 90 2=some 2:=by kernel_rfl
theorem sz_40:szK Tryd.prog 40=some 1:=by kernel_rfl
theorem Xib:Q5 Tryd.prog 90 5=some 6:=by kernel_rfl
theorem fo_84_3:Q5 Tryd.prog 84 3=some 3:=by kernel_rfl
theorem P9:Q5 Tryd.prog 90 3=some 3:=by kernel_rfl
theorem bd_90:bld Tryd.prog 90=some (#[.slice none 0 0,.int .i64 0,.int .i64 0,.slice none 0 0,.slice none 0 0,.int .i64 0,.int .i64 0],[(0,1),(1,1),(2,1),(3,2),(5,1),(6,1)]):=by kernel_rfl
theorem bd_25:bld Tryd.prog 25=some (#[.slice none 0 0,.slice none 0 0],[(0,1),(1,1)]):=by kernel_rfl
theorem bs_26_3:Xde Tryd.prog 26 3=some (56,7,#[.string (⟨#[]⟩:ByteArray),.bool false,.string (⟨#[]⟩:ByteArray),.int .i64 0,.int .i64 0,.int .i64 0,.int .i64 0,.string (⟨#[]⟩:ByteArray),.bool false,.string (⟨#[]⟩:ByteArray),.int .i64 0,.int .i64 0,.int .i64 0,.int .i64 0,.string (⟨#[]⟩:ByteArray),.bool false,.string (⟨#[]⟩:ByteArray),.int .i64 0,.int .i64 0,.int .i64 0,.int .i64 0]):=by kernel_rfl
theorem bs_36_2:Xde Tryd.prog 36 2=some (3,1,#[.int .i64 0,.int .i64 0]):=by kernel_rfl
theorem ld_38:ldK Tryd.prog 38=some (some 1):=by kernel_rfl
end Go.Proofs.YtjookebbmfiidaaDoor.K
