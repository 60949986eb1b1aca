/- Plain lemmas on lists for the library's functions. -/
import Derived.Test.YtofjjaagjkbeaaaGreatMath
import Derived.Test.YtofjjaagjkbeaaaGreatSall
namespace Go.Proofs.YtofjjaagjkbeaaaGreat.pv
set_option linter.all false
open Go.RowKit help
def findI {α:Type} (p:α→Bool) (l:List α):Int:=match l.findIdx? p with | some j=>(j:Int) | none => -1
theorem findI_cases {α:Type} (p:α→Bool) (l:List α):(findI p l = -1∧∀ x∈l,p x=false)∨∃ (j:Nat) (x:α),findI p l=(j:Int)∧l[j]?=some x∧p x=true∧∀ (i:Nat) (y:α),i<j→l[i]?=some y→p y=false:=by
 unfold findI
 cases h:l.findIdx? p with
 | none =>
  rw [List.findIdx?_eq_none_iff] at h
  exact .inl ⟨rfl,h⟩
 | some j =>
  obtain ⟨h1,h2,h3⟩:=List.findIdx?_eq_some_iff_getElem.1 h
  refine .inr ⟨j,l[j],rfl,List.getElem?_eq_getElem h1,h2,fun i y hi hy=>?_⟩
  obtain ⟨h4,rfl⟩:=List.getElem?_eq_some_iff.1 hy
  simpa using h3 i hi
theorem delR_len {α:Type} {l:List α} {i j:Nat} (hij:i≤j) (hj:j≤l.length):(delR l i j l.length).length=l.length:=by
 unfold delR; simp; omega
theorem clrR_len {α:Type} {l:List α} {i j:Nat} {z:α} (hij:i≤j) (hj:j≤l.length):(clrR l i j z).length=l.length:=by
 unfold clrR; simp; omega
theorem cut_take {α:Type} {l:List α} {i j:Nat} {z:α} (hij:i≤j) (hj:j≤l.length):(clrR (delR l i j l.length) (i+(l.length-j)) l.length z).take (i+(l.length-j))=l.take i++l.drop j:=by
 unfold clrR
 have h1:((delR l i j l.length).take (i+(l.length-j)))=l.take i++l.drop j:=by
  unfold delR
  rw [List.take_length]
  exact List.take_left' (by simp; omega)
 rw [h1,List.append_assoc]
 exact List.take_left' (by simp; omega)
theorem app_le {α:Type} {b m:Nat} {xs ys:List α} (h:xs.length+ys.length≤m) (hm:m*b≤140737488355328) (hm2:m≤4611686018427387904):app b xs ys=some (xs++ys):=by
 unfold app
 have:(xs.length+ys.length)*b≤m*b:=Nat.mul_le_mul_right _ h
 rw [if_pos ⟨by unfold maxLen; omega,by omega⟩]
end Go.Proofs.YtofjjaagjkbeaaaGreat.pv
