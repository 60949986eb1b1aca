/- Plain lemmas on lists for the library's functions. -/
import Derived.Test.YtocchemnfpnmeaaDoorMath
import Derived.Test.YtocchemnfpnmeaaDoorSall
namespace Go.Proofs.YtocchemnfpnmeaaDoor.pv
set_option linter.all false
open Go.RowKit help
def findI {α:Type} (p:α→Bool) (l:List α):Int:=match l.findIdx? p with | some j=>(j:Int) | none => -1
theorem findI_cases {α:Type} (p:α→Bool) (l:List α):(findI p l = -1∧∀ x∈l,p x=false)∨∃ (j:Nat) (x:α),findI p l=(j:Int)∧l[j]?=some x∧p x=true∧∀ (i:Nat) (y:α),i<j→l[i]?=some y→p y=false:=by
 unfold findI
 cases h:l.findIdx? p with
 | none =>
  rw [List.findIdx?_eq_none_iff] at h
  exact .inl ⟨rfl,h⟩
 | some j =>
  obtain ⟨h1,h2,h3⟩:=List.findIdx?_eq_some_iff_getElem.1 h
  refine .inr ⟨j,l[j],rfl,List.getElem?_eq_getElem h1,h2,fun i y hi hy=>?_⟩
  obtain ⟨h4,rfl⟩:=List.getElem?_eq_some_iff.1 hy
  simpa using h3 i hi
theorem findI_lt {α:Type} {p:α→Bool} {l:List α}:findI p l<0↔∀ x∈l,p x=false:=by
 rcases findI_cases p l with ⟨h1,h2⟩ | ⟨j,x,h1,h2,h3,_⟩
 ·rw [h1]; simpa using h2
 ·rw [h1]
  constructor
  ·intro h; omega
  ·intro h; rw [h x (List.mem_of_getElem? h2)] at h3; cases h3
theorem app_le {α:Type} {b m:Nat} {xs ys:List α} (h:xs.length+ys.length≤m) (hm:m*b≤140737488355328) (hm2:m≤4611686018427387904):app b xs ys=some (xs++ys):=by
 unfold app
 have:(xs.length+ys.length)*b≤m*b:=Nat.mul_le_mul_right _ h
 rw [if_pos ⟨by unfold maxLen; omega,by omega⟩]
end Go.Proofs.YtocchemnfpnmeaaDoor.pv
