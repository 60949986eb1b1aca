/- Plain lemmas on lists for the library's functions. -/
import Derived.Test.YtgdhhaddfllkaaaMath
import Derived.Test.YtgdhhaddfllkaaaSall
namespace Go.Proofs.Ytgdhhaddfllkaaa.pv
set_option linter.all false
open Go.RowKit help
def findI {α:Type} (p:α→Bool) (l:List α):Int:=match l.findIdx? p with | some j=>(j:Int) | none => -1
theorem app_le {α:Type} {b m:Nat} {xs ys:List α} (h:xs.length+ys.length≤m) (hm:m*b≤140737488355328) (hm2:m≤4611686018427387904):app b xs ys=some (xs++ys):=by
 unfold app
 have:(xs.length+ys.length)*b≤m*b:=Nat.mul_le_mul_right _ h
 rw [if_pos ⟨by unfold maxLen; omega,by omega⟩]
end Go.Proofs.Ytgdhhaddfllkaaa.pv
