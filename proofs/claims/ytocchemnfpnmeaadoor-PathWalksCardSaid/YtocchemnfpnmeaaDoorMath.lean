/- Plain lemmas on numbers of a kind, lists and the functions of XQo. -/
import Derived.Test.YtocchemnfpnmeaaDoorQr
namespace Go.Proofs.YtocchemnfpnmeaaDoor.pv
set_option linter.all false
open Go.RowKit help
theorem wi64 {x:Int} (h1 : -9223372036854775808≤x) (h2:x≤9223372036854775807):wi .i64 x=x:=by rw [wi,IntKind.wrap_i64]; omega
theorem getI_nat {α:Type} (l:List α) (i:Nat):getI l (i:Int)=l[i]?:=by
 unfold getI
 rw [if_pos (by omega)]; simp
theorem wi_succ {i:Nat} (h:i<4611686018427387904):wi .i64 ((i:Int)+1)=((i+1:Nat):Int):=by rw [wi64 (by omega) (by omega)]; simp
theorem drop_cons {α:Type} {l:List α} {i:Nat} {x:α} (h:l[i]?=some x):l.drop i=x::l.drop (i+1):=by
 obtain ⟨h1,rfl⟩:=List.getElem?_eq_some_iff.1 h
 exact List.drop_eq_getElem_cons h1
theorem drop_end {α:Type} {l:List α} {i:Nat} (h:¬ (i:Int)<(l.length:Int)):l.drop i=[]:=List.drop_eq_nil_of_le (by omega)
theorem get_lt {α:Type} {l:List α} {i:Nat} (h:(i:Int)<(l.length:Int)):∃ x,l[i]?=some x:=⟨l[i]'(by omega),List.getElem?_eq_getElem (by omega)⟩
theorem app_some {α:Type} {b:Nat} {xs ys:List α} (h1:xs.length+ys.length≤1000000) (h2:b≤100000):app b xs ys=some (xs++ys):=by
 unfold app
 have:(xs.length+ys.length)*b≤1000000*100000:=Nat.mul_le_mul h1 h2
 rw [if_pos ⟨by unfold maxLen; omega,by omega⟩]
end Go.Proofs.YtocchemnfpnmeaaDoor.pv
