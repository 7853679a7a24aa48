/- The kinds of this seat's values and closed facts on its types, printed by my own tool. No condition. -/
import Derived.Test.YtelafghkjlpojaaBE
import Derived.Test.YtelafghkjlpojaaBL
import Derived.Test.YtelafghkjlpojaaR
import Derived.Test.YtelafghkjlpojaaProg
set_option linter.unusedVariables false
set_option maxRecDepth 100000
set_option maxHeartbeats 4000000
namespace Go.Proofs.Ytelafghkjlpojaa.K
open Go.Proofs.Ytelafghkjlpojaa.B Go.Proofs.Ytelafghkjlpojaa.R Go.RowKit
def Ygr (x:Yg6):List Value:=[.int .i64 x.sym,.string x.field,.string x.as]
theorem Yi0:∀ x,(Ygr x).length=3:=fun _=>rfl
theorem Yig:∀ x,∀ u ∈ Ygr x,u.oneCell'=true:=fun x u hu=>List.all_eq_true.1 (show (Ygr x).all Value.oneCell'=true from rfl) u hu
abbrev Yh0:Kd Yg6:=Kd.flat 3 Ygr Yi0 Yig
def Yg9 (x:Ygc):List Value:=[.string x.name,.bool x.lit]
theorem Yjz:∀ x,(Yg9 x).length=2:=fun _=>rfl
theorem Yk0:∀ x,∀ u ∈ Yg9 x,u.oneCell'=true:=fun x u hu=>List.all_eq_true.1 (show (Yg9 x).all Value.oneCell'=true from rfl) u hu
abbrev Ygi:Kd Ygc:=Kd.flat 2 Yg9 Yjz Yk0
def Ygd (x:Ygq):List Value:=[.string x.name,.int .i64 x.kind]
theorem Ylk:∀ x,(Ygd x).length=2:=fun _=>rfl
theorem Ylj:∀ x,∀ u ∈ Ygd x,u.oneCell'=true:=fun x u hu=>List.all_eq_true.1 (show (Ygd x).all Value.oneCell'=true from rfl) u hu
abbrev Yh1:Kd Ygq:=Kd.flat 2 Ygd Ylk Ylj
def Ygs:Kd Yg8:={ sz:=2,K:=(fun w F x cs=>∃ (A0:Option Addr),∃ (n0:Nat),∃ (c0:Nat),cs=[.int .i64 x.lhs,.slice A0 n0 c0]∧Rw Yh0 w F A0 n0 c0 x.rhs),len:=(by rintro w F x cs ⟨_,_,_,rfl,_⟩; rfl),one:=(by rintro w F x cs ⟨_,_,_,rfl,_⟩; exact fun u hu=>List.all_eq_true.1 rfl u hu),mono:=(by rintro w w' F F' x cs ⟨_,_,_,rfl,h0⟩ hF; exact ⟨_,_,_,rfl,h0.mono hF⟩) }
def Yt4:Kd Yfz:={ sz:=3,K:=(fun w F x cs=>∃ (A0:Option Addr),∃ (n0:Nat),∃ (c0:Nat),∃ (A1:Option Addr),∃ (n1:Nat),∃ (c1:Nat),∃ (A2:Option Addr),∃ (n2:Nat),∃ (c2:Nat),cs=[.slice A0 n0 c0,.slice A1 n1 c1,.slice A2 n2 c2]∧Rw Ygi w F A0 n0 c0 x.terms∧Rw Yh1 w F A1 n1 c1 x.syms∧Rw Ygs w F A2 n2 c2 x.prods),len:=(by rintro w F x cs ⟨_,_,_,_,_,_,_,_,_,rfl,_⟩; rfl),one:=(by rintro w F x cs ⟨_,_,_,_,_,_,_,_,_,rfl,_⟩; exact fun u hu=>List.all_eq_true.1 rfl u hu),mono:=(by rintro w w' F F' x cs ⟨_,_,_,_,_,_,_,_,_,rfl,h0,h1,h2⟩ hF; exact ⟨_,_,_,_,_,_,_,_,_,rfl,h0.mono hF,h1.mono hF,h2.mono hF⟩) }
def Yg2 (x:Yg0):List Value:=(Yl9 192 fun j=>[.int .u64 (x.first j)])++((Yl9 192 fun j=>[.bool (x.vanishes j)]))
theorem Yhh (x:Yg0):(Yg2 x).length=384:=by
  unfold Yg2
  have e0:((Yl9 192 fun j=>[.int .u64 (x.first j)]):List Value).length=192:=(Ym4 (sz:=1) (f:=fun j=>[.int .u64 (x.first j)]) (fun j=>rfl) 192)
  have e1:((Yl9 192 fun j=>[.bool (x.vanishes j)]):List Value).length=192:=(Ym4 (sz:=1) (f:=fun j=>[.bool (x.vanishes j)]) (fun j=>rfl) 192)
  simp only [List.length_append,e0,e1]
theorem Ylc (x:Yg0):(Yg2 x).all Value.oneCell'=true:=by
  unfold Yg2
  simp only [List.all_append,Bool.and_eq_true]
  exact ⟨(Yt3 (f:=fun j=>[.int .u64 (x.first j)]) (fun j=>rfl) 192),(Yt3 (f:=fun j=>[.bool (x.vanishes j)]) (fun j=>rfl) 192)⟩
theorem Yj1 (x:Yg0) (y:Int→Int):Pt (Yg2 x) 0 ((Yl9 192 fun j=>[.int .u64 (x.first j)])) ((Yl9 192 fun j=>[.int .u64 (y j)])) (Yg2 { x with first:=y }):=⟨[],(Yl9 192 fun j=>[.bool (x.vanishes j)]),by simp [Yg2],by simp [Yg2],by
  simp only [List.length_append,List.length_nil]⟩
theorem Yic (x:Yg0) (y:Int→Bool):Pt (Yg2 x) 192 ((Yl9 192 fun j=>[.bool (x.vanishes j)])) ((Yl9 192 fun j=>[.bool (y j)])) (Yg2 { x with vanishes:=y }):=⟨(Yl9 192 fun j=>[.int .u64 (x.first j)]),[],by simp [Yg2],by simp [Yg2],by
  have e0:((Yl9 192 fun j=>[.int .u64 (x.first j)]):List Value).length=192:=(Ym4 (sz:=1) (f:=fun j=>[.int .u64 (x.first j)]) (fun j=>rfl) 192)
  simp only [List.length_append,List.length_nil,e0]⟩
abbrev Ymk:Fk Yg8:={ α:=Yg6,inn:=fun x=>x.rhs,enc:=Ygr,e:=36,sz:=3,so:=2,cl:=fun x d=>[.int .i64 x.lhs,.slice d.A d.n d.c],hl:=Yi0,h1:=Yig,hcl:=fun _ _=>rfl,ok:=fun x=>True,inj:=fun x d d' _ _ h=>by cases d; cases d'; simpa using h }
abbrev Yh7:Fk (Yg8 × Nat):={ α:=Yg6,inn:=fun x=>x.1.rhs,enc:=Ygr,e:=36,sz:=3,so:=2,cl:=fun x d=>[.int .i64 x.1.lhs,.slice d.A x.2 d.c],hl:=Yi0,h1:=Yig,hcl:=fun _ _=>rfl,ok:=fun x=>x.2≤x.1.rhs.length,inj:=fun x d d' h1 h2 h=>by obtain ⟨A,n,c⟩:=d; obtain ⟨A',n',c'⟩:=d'; simp at h; obtain ⟨rfl,rfl⟩:=h; dsimp only at h1 h2; rw [h1,h2] }
def Ykq:Kd (Yg8 × Nat):={ sz:=2,K:=(fun w F x cs=>∃ (A:Option Addr) (n c:Nat),cs=[.int .i64 x.1.lhs,.slice A x.2 c]∧Rw Yh0 w F A n c x.1.rhs∧x.2≤n),len:=(by rintro w F x cs ⟨_,_,_,rfl,_⟩; rfl),one:=(by rintro w F x cs ⟨_,_,_,rfl,_⟩; exact fun u hu=>List.all_eq_true.1 rfl u hu),mono:=(by rintro w w' F F' x cs ⟨_,_,_,rfl,h,k⟩ hF; exact ⟨_,_,_,rfl,h.mono hF,k⟩) }
theorem Ypr (x y:Yg6):Yoz (Ygr x).toArray (Ygr y).toArray [(0,1),(1,2),(2,2)]=some (decide (x=y)):=by
  cases x; cases y; refine congrArg some ?_; rw [Bool.eq_iff_iff]; simp [Ysf]
theorem Ynp (x y:Ygc):Yoz (Yg9 x).toArray (Yg9 y).toArray [(0,2),(1,0)]=some (decide (x=y)):=by
  cases x; cases y; refine congrArg some ?_; rw [Bool.eq_iff_iff]; simp [Ysf]
theorem Ypw (x y:Ygq):Yoz (Ygd x).toArray (Ygd y).toArray [(0,2),(1,1)]=some (decide (x=y)):=by
  cases x; cases y; refine congrArg some ?_; rw [Bool.eq_iff_iff]; simp [Ysf]
theorem vw_38 (xs:List Yg8):(xs.map Yje).map Yj3=xs:=by
  induction xs with
  | nil=>rfl
  | cons x xs ih =>
    rw [List.map_cons,List.map_cons,ih]
    congr 1
    simp [Yj3,Yje]
theorem mix:Try.prog.follows .mixedOrders=true:=by kernel_rfl
theorem Ym9:Try.prog.underlying 27=some (.slice 36):=by kernel_rfl
theorem Yl7:slE Try.prog 27=some (36,3):=by kernel_rfl
theorem Yr1:ldK Try.prog 36=some (some 3):=by kernel_rfl
theorem Ytm:bldS Try.prog 27 1=some (36,3,#[.int .i64 0,.string (⟨#[]⟩:ByteArray),.string (⟨#[]⟩:ByteArray)]):=by kernel_rfl
theorem ap_27:apK Try.prog 27=some (36,3,40):=by kernel_rfl
theorem Yro:zrK Try.prog 26=some [.slice none 0 0,.slice none 0 0,.slice none 0 0]:=by kernel_rfl
theorem Yi3:Yq4 Try.prog 26 0=some 0:=by kernel_rfl
theorem Ykl:ldK Try.prog 22=some none:=by kernel_rfl
theorem Ylt:Try.prog.underlying 22=some (.slice 58):=by kernel_rfl
theorem Ypf:slE Try.prog 22=some (58,2):=by kernel_rfl
theorem ld_58:ldK Try.prog 58=some (some 2):=by kernel_rfl
theorem Ytd:bldS Try.prog 22 1=some (58,2,#[.string (⟨#[]⟩:ByteArray),.bool false]):=by kernel_rfl
theorem ap_22:apK Try.prog 22=some (58,2,24):=by kernel_rfl
theorem sz_22:szK Try.prog 22=some 1:=by kernel_rfl
theorem Yih:Yq4 Try.prog 26 1=some 1:=by kernel_rfl
theorem Yl1:ldK Try.prog 23=some none:=by kernel_rfl
theorem Ymd:Try.prog.underlying 23=some (.slice 61):=by kernel_rfl
theorem Ypk:slE Try.prog 23=some (61,2):=by kernel_rfl
theorem ld_61:ldK Try.prog 61=some (some 2):=by kernel_rfl
theorem Ytc:bldS Try.prog 23 1=some (61,2,#[.string (⟨#[]⟩:ByteArray),.int .i64 0]):=by kernel_rfl
theorem ap_23:apK Try.prog 23=some (61,2,24):=by kernel_rfl
theorem sz_23:szK Try.prog 23=some 1:=by kernel_rfl
theorem Ygw:Yq4 Try.prog 26 2=some 2:=by kernel_rfl
theorem Yip:ldK Try.prog 24=some none:=by kernel_rfl
theorem Ymb:Try.prog.underlying 24=some (.slice 38):=by kernel_rfl
theorem Yj6:slE Try.prog 24=some (38,2):=by kernel_rfl
theorem Yk7:Yq4 Try.prog 38 0=some 0:=by kernel_rfl
theorem Ym5:ldK Try.prog 3=some none:=by kernel_rfl
theorem Yke:Yq4 Try.prog 38 1=some 1:=by kernel_rfl
theorem Ymv:ldK Try.prog 27=some none:=by kernel_rfl
theorem bd_38:bld Try.prog 38=some (#[.int .i64 0,.slice none 0 0],[(0,1),(1,1)]):=by kernel_rfl
theorem Yte:bldS Try.prog 24 1=some (38,2,#[.int .i64 0,.slice none 0 0]):=by kernel_rfl
theorem ap_24:apK Try.prog 24=some (38,2,32):=by kernel_rfl
theorem sz_24:szK Try.prog 24=some 1:=by kernel_rfl
theorem Yk6:ldK Try.prog 26=some (some 3):=by kernel_rfl
theorem Yss:szK Try.prog 26=some 3:=by kernel_rfl
theorem Ymf:Yq4 Try.prog 36 0=some 0:=by kernel_rfl
theorem ld_38:ldK Try.prog 38=some (some 2):=by kernel_rfl
theorem zr_38:zrK Try.prog 38=some [.int .i64 0,.slice none 0 0]:=by kernel_rfl
theorem sz_38:szK Try.prog 38=some 2:=by kernel_rfl
theorem Yp4:slE Try.prog 40=some (4,1):=by kernel_rfl
theorem ld_4:ldK Try.prog 4=some none:=by kernel_rfl
theorem mk_40:mkK Try.prog 40=some (4,[.bool false],1):=by kernel_rfl
theorem sz_4:szK Try.prog 4=some 1:=by kernel_rfl
theorem un_3:Try.prog.underlying 3=some (.int .i64):=by kernel_rfl
theorem un_49:Try.prog.underlying 49=some (.int .u64):=by kernel_rfl
theorem bd_36:bld Try.prog 36=some (#[.int .i64 0,.string (⟨#[]⟩:ByteArray),.string (⟨#[]⟩:ByteArray)],[(0,1),(1,1),(2,1)]):=by kernel_rfl
theorem bd_58:bld Try.prog 58=some (#[.string (⟨#[]⟩:ByteArray),.bool false],[(0,1),(1,1)]):=by kernel_rfl
theorem bd_61:bld Try.prog 61=some (#[.string (⟨#[]⟩:ByteArray),.int .i64 0],[(0,1),(1,1)]):=by kernel_rfl
theorem sz_27:szK Try.prog 27=some 1:=by kernel_rfl
theorem zr_36:zrK Try.prog 36=some [.int .i64 0,.string (⟨#[]⟩:ByteArray),.string (⟨#[]⟩:ByteArray)]:=by kernel_rfl
theorem sz_36:szK Try.prog 36=some 3:=by kernel_rfl
theorem Yo9:Yq4 Try.prog 67 0=some 0:=by kernel_rfl
theorem ar_64:arK Try.prog 64=some (192,1):=by kernel_rfl
theorem ld_29:ldK Try.prog 29=some none:=by kernel_rfl
theorem Yo3:Yq4 Try.prog 67 1=some 192:=by kernel_rfl
theorem ar_65:arK Try.prog 65=some (192,1):=by kernel_rfl
theorem zr_67:zrK Try.prog 67=some (Yg2 (⟨(fun _=>0),(fun _=>false)⟩:Yg0)):=by kernel_rfl
theorem sz_29:szK Try.prog 29=some 1:=by kernel_rfl
theorem Ysm:ldK Try.prog 67=some (some 384):=by kernel_rfl
theorem Ysi:szK Try.prog 67=some 384:=by kernel_rfl
theorem ld_64:ldK Try.prog 64=some (some 192):=by kernel_rfl
theorem ae_64:aeK Try.prog 64=some (192,1):=by kernel_rfl
theorem ld_65:ldK Try.prog 65=some (some 192):=by kernel_rfl
theorem ae_65:aeK Try.prog 65=some (192,0):=by kernel_rfl
theorem eq_36:eqK Try.prog 36=some [(0,1),(1,2),(2,2)]:=by kernel_rfl
theorem eq_58:eqK Try.prog 58=some [(0,2),(1,0)]:=by kernel_rfl
theorem eq_61:eqK Try.prog 61=some [(0,2),(1,1)]:=by kernel_rfl
end Go.Proofs.Ytelafghkjlpojaa.K
