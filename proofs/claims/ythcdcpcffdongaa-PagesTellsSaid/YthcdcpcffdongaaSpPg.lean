/- What the library's functions compute, in words of plain lists: written by specs.py. -/
import Derived.Test.YthcdcpcffdongaaGuPagesTells
import Derived.Test.YthcdcpcffdongaaLib
namespace Go.Proofs.Ythcdcpcffdongaa.pv
set_option linter.all false
open Go.RowKit help

theorem G_slices_Delete_pages_Page_pages_Page_h_sp {n i j : Nat} {l : List S_pages_Page} (hij : i ≤ j) (hj : j ≤ l.length) : G_slices_Delete_pages_Page_pages_Page_h n l (i : Int) (j : Int) = some (l.take i ++ l.drop j) := by
  unfold G_slices_Delete_pages_Page_pages_Page_h
  rw [if_pos (by omega)]
  by_cases e : (i : Int) = (j : Int)
  · rw [if_pos e]
    have e : i = j := by omega
    subst e; simp
  · rw [if_neg e]
    simp only [Int.toNat_natCast]
    have hd : (delR l i j l.length).length = l.length := delR_len hij hj
    rw [if_pos (by omega), if_pos (by omega), if_pos (by omega), hd, if_pos (by omega), if_pos (by omega), if_pos (by rw [clrR_len (by omega) (by rw [hd]; omega), hd]; omega)]
    rw [cut_take hij hj]
end Go.Proofs.Ythcdcpcffdongaa.pv
