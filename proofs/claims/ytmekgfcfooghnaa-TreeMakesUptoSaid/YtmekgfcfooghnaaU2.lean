/- Plain words and their laws: bytes and texts. No condition. -/
import Derived.Test.YtmekgfcfooghnaaU1
set_option linter.unusedVariables false
namespace Go.Proofs.Ytmekgfcfooghnaa.B
def Bts (b:List Int):Prop:=∀ x ∈ b,0≤x∧x≤255
theorem bt_ix {s:ByteArray} {i:Nat} (h:i < s.size):bt s i=(Xxy s)[i]'(by rw [Yd0]; exact h):=by
 unfold bt Xxy
 rw [Int.toNat_natCast,getElem?_pos s i h]
 simp
 rfl
theorem Yc3 (s:ByteArray):ofBs (Xxy s)=s:=by
 unfold Xxy ofBs
 rw [List.map_map]
 have:s.data.toList.map ((fun x:Int=>UInt8.ofNat x.toNat) ∘ fun b=>(b.toNat:Int))=s.data.toList:=by
  refine (List.map_congr_left fun x _=>?_).trans (List.map_id _)
  simp
 rw [this]
theorem bs_inj {s t:ByteArray} (h:Xxy s=Xxy t):s=t:=by rw [← Yc3 s,h,Yc3]
theorem Bts.app {a b:List Int} (h:Bts a) (k:Bts b):Bts (a++b):=fun x hx=>by
 rcases List.mem_append.1 hx with hx | hx
 ·exact h x hx
 ·exact k x hx
theorem Bts.drop {a:List Int} (h:Bts a) (n:Nat):Bts (a.drop n):=fun x hx=>h x (List.mem_of_mem_drop hx)
theorem Bts.take {a:List Int} (h:Bts a) (n:Nat):Bts (a.take n):=fun x hx=>h x (List.mem_of_mem_take hx)
theorem Bts.of {l:List Int} (h:l.all (fun x=>decide (0≤x) && decide (x≤255))=true):Bts l:=fun x hx=>by
 have:=List.all_eq_true.1 h x hx
 simpa using this
theorem Ycs (s:ByteArray) (i j:Nat):Xxy (s.extract i j)=((Xxy s).take j).drop i:=by
 unfold Xxy
 simp [ByteArray.data_extract,List.drop_take,List.map_take,List.map_drop]
theorem Yfl {s:ByteArray} {i:Nat} (h:i < s.size):(Xxy s).take (i + 1)=(Xxy s).take i++[bt s (i:Int)]:=by
 rw [List.take_succ_eq_append_getElem (by rw [Yd0]; exact h),← bt_ix h]
end Go.Proofs.Ytmekgfcfooghnaa.B
