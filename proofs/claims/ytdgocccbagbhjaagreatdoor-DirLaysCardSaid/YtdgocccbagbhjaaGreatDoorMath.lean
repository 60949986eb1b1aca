/- Plain lemmas on numbers of a kind, lists and the functions of XQo. -/
import Derived.Test.YtdgocccbagbhjaaGreatDoorQr
namespace Go.Proofs.YtdgocccbagbhjaaGreatDoor.pv
set_option linter.all false
open Go.RowKit help
theorem wi64 {x:Int} (h1 : -9223372036854775808≤x) (h2:x≤9223372036854775807):wi .i64 x=x:=by rw [wi,IntKind.wrap_i64]; omega
theorem wu8 {x:Int} (h1:0≤x) (h2:x≤255):wi .u8 x=x:=by rw [wi,IntKind.wrap_u8]; omega
theorem wf8 {a:Int}:(Lit.int .u8 a).wf=true↔0≤a∧a≤255:=by simp [Lit.wf,IntKind.min,IntKind.max,IntKind.bits,IntKind.signed]
theorem quo_i64 {a b:Int} (ha:0≤a) (hb:0<b) (h:a≤9223372036854775807):quoI .i64 a b=a / b:=by
 have h1:a.tdiv b=a / b:=Int.tdiv_eq_ediv_of_nonneg ha
 have h2:0≤a / b:=Int.ediv_nonneg ha (by omega)
 have h3:a / b≤a:=Int.ediv_le_self _ ha
 unfold quoI
 rw [h1]
 exact wi64 (by omega) (by omega)
theorem rem_nn {a b:Int} (ha:0≤a):remI a b=a % b:=Int.tmod_eq_emod_of_nonneg ha
theorem getI_nat {α:Type} (l:List α) (i:Nat):getI l (i:Int)=l[i]?:=by
 unfold getI
 rw [if_pos (by omega)]; simp
theorem wi_succ {i:Nat} (h:i<4611686018427387904):wi .i64 ((i:Int)+1)=((i+1:Nat):Int):=by rw [wi64 (by omega) (by omega)]; simp
theorem drop_cons {α:Type} {l:List α} {i:Nat} {x:α} (h:l[i]?=some x):l.drop i=x::l.drop (i+1):=by
 obtain ⟨h1,rfl⟩:=List.getElem?_eq_some_iff.1 h
 exact List.drop_eq_getElem_cons h1
theorem drop_end {α:Type} {l:List α} {i:Nat} (h:¬ (i:Int)<(l.length:Int)):l.drop i=[]:=List.drop_eq_nil_of_le (by omega)
theorem get_lt {α:Type} {l:List α} {i:Nat} (h:(i:Int)<(l.length:Int)):∃ x,l[i]?=some x:=⟨l[i]'(by omega),List.getElem?_eq_getElem (by omega)⟩
theorem app_some {α:Type} {b:Nat} {xs ys:List α} (h1:xs.length+ys.length≤1000000) (h2:b≤100000):app b xs ys=some (xs++ys):=by
 unfold app
 have:(xs.length+ys.length)*b≤1000000*100000:=Nat.mul_le_mul h1 h2
 rw [if_pos ⟨by unfold maxLen; omega,by omega⟩]
end Go.Proofs.YtdgocccbagbhjaaGreatDoor.pv
