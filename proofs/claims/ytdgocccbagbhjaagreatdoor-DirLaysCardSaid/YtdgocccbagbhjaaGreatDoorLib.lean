/- Plain lemmas on lists for the library's functions. -/
import Derived.Test.YtdgocccbagbhjaaGreatDoorMath
import Derived.Test.YtdgocccbagbhjaaGreatDoorSall
namespace Go.Proofs.YtdgocccbagbhjaaGreatDoor.pv
set_option linter.all false
open Go.RowKit help
def findI {α:Type} (p:α→Bool) (l:List α):Int:=match l.findIdx? p with | some j=>(j:Int) | none => -1
theorem findI_nn {α:Type} (p:α→Bool) (l:List α):decide (findI p l≥0)=l.any p:=by
 unfold findI
 cases h:l.findIdx? p with
 | none =>
  rw [List.findIdx?_eq_none_iff] at h
  simp only [show ¬ ((-1:Int)≥0) by omega,decide_false]
  symm
  rw [List.any_eq_false]
  intro x hx; simp [h x hx]
 | some j =>
  have:=List.findIdx?_eq_some_iff_getElem.1 h
  obtain ⟨h1,h2,_⟩:=this
  simp only [show ((j:Int)≥0) by omega,decide_true]
  symm
  rw [List.any_eq_true]
  exact ⟨_,List.getElem_mem h1,h2⟩
theorem findI_cases {α:Type} (p:α→Bool) (l:List α):(findI p l = -1∧∀ x∈l,p x=false)∨∃ (j:Nat) (x:α),findI p l=(j:Int)∧l[j]?=some x∧p x=true∧∀ (i:Nat) (y:α),i<j→l[i]?=some y→p y=false:=by
 unfold findI
 cases h:l.findIdx? p with
 | none =>
  rw [List.findIdx?_eq_none_iff] at h
  exact .inl ⟨rfl,h⟩
 | some j =>
  obtain ⟨h1,h2,h3⟩:=List.findIdx?_eq_some_iff_getElem.1 h
  refine .inr ⟨j,l[j],rfl,List.getElem?_eq_getElem h1,h2,fun i y hi hy=>?_⟩
  obtain ⟨h4,rfl⟩:=List.getElem?_eq_some_iff.1 hy
  simpa using h3 i hi
theorem findI_lt {α:Type} {p:α→Bool} {l:List α}:findI p l<0↔∀ x∈l,p x=false:=by
 rcases findI_cases p l with ⟨h1,h2⟩ | ⟨j,x,h1,h2,h3,_⟩
 ·rw [h1]; simpa using h2
 ·rw [h1]
  constructor
  ·intro h; omega
  ·intro h; rw [h x (List.mem_of_getElem? h2)] at h3; cases h3
theorem delR_len {α:Type} {l:List α} {i j:Nat} (hij:i≤j) (hj:j≤l.length):(delR l i j l.length).length=l.length:=by
 unfold delR; simp; omega
theorem clrR_len {α:Type} {l:List α} {i j:Nat} {z:α} (hij:i≤j) (hj:j≤l.length):(clrR l i j z).length=l.length:=by
 unfold clrR; simp; omega
theorem cut_take {α:Type} {l:List α} {i j:Nat} {z:α} (hij:i≤j) (hj:j≤l.length):(clrR (delR l i j l.length) (i+(l.length-j)) l.length z).take (i+(l.length-j))=l.take i++l.drop j:=by
 unfold clrR
 have h1:((delR l i j l.length).take (i+(l.length-j)))=l.take i++l.drop j:=by
  unfold delR
  rw [List.take_length]
  exact List.take_left' (by simp; omega)
 rw [h1,List.append_assoc]
 exact List.take_left' (by simp; omega)
end Go.Proofs.YtdgocccbagbhjaaGreatDoor.pv
