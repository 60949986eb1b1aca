/- What the library's functions compute, in words of plain lists: written by specs.py. -/
import Derived.Test.YtpeakaeblibfmaaGuTwinTells
import Derived.Test.YtpeakaeblibfmaaLib
namespace Go.Proofs.Ytpeakaeblibfmaa.pv
set_option linter.all false
open Go.RowKit help

theorem G_slices_IndexFunc_twin_Room_twin_Room_sl (n : Nat) (l : List S_twin_Room) (f : S_twin_Room → Option Bool) (p : S_twin_Room → Bool) (hf : ∀ y ∈ l, f y = some (p y)) (hl : l.length < 4611686018427387903) : ∀ (k i : Nat), l.length - i < k → i ≤ l.length → G_slices_IndexFunc_twin_Room_twin_Room_L1 n l f k (i : Int) = some (match (l.drop i).findIdx? p with | some j => .x0 ((i + j : Nat) : Int) | none => .x1)
  | 0, i, h, _ => by omega
  | k + 1, i, h, hi => by
    rw [G_slices_IndexFunc_twin_Room_twin_Room_L1]
    by_cases hlt : (i : Int) < (l.length : Int)
    · obtain ⟨x, hx⟩ := get_lt hlt
      rw [if_pos hlt, getI_nat, hx, Option.bind_some, hf x (List.mem_of_getElem? hx), Option.bind_some, drop_cons hx, List.findIdx?_cons]
      cases hp : p x with
      | true => simp
      | false =>
        simp only [Bool.false_eq_true, if_false]
        rw [wi_succ (by omega), G_slices_IndexFunc_twin_Room_twin_Room_sl n l f p hf hl k (i + 1) (by omega) (by omega)]
        cases (l.drop (i + 1)).findIdx? p with
        | none => simp
        | some j => simp; omega
    · rw [if_neg hlt, drop_end hlt]; rfl
theorem G_slices_IndexFunc_twin_Room_twin_Room_sp {n : Nat} {l : List S_twin_Room} {f : S_twin_Room → Option Bool} (p : S_twin_Room → Bool) (hf : ∀ y ∈ l, f y = some (p y)) (hl : l.length < 4611686018427387903) (hn : l.length < n) : G_slices_IndexFunc_twin_Room_twin_Room n l f = some (findI p l) := by
  unfold G_slices_IndexFunc_twin_Room_twin_Room
  have h := G_slices_IndexFunc_twin_Room_twin_Room_sl n l f p hf hl n 0 (by omega) (by omega)
  have h : G_slices_IndexFunc_twin_Room_twin_Room_L1 n l f n 0 = _ := h
  rw [h, Option.bind_some, List.drop_zero, findI]
  cases l.findIdx? p <;> simp
theorem G_slices_ContainsFunc_twin_Room_twin_Room_sp {n : Nat} {l : List S_twin_Room} {f : S_twin_Room → Option Bool} (p : S_twin_Room → Bool) (hf : ∀ y ∈ l, f y = some (p y)) (hl : l.length < 4611686018427387903) (hn : l.length < n) : G_slices_ContainsFunc_twin_Room_twin_Room n l f = some (l.any p) := by
  unfold G_slices_ContainsFunc_twin_Room_twin_Room
  rw [G_slices_IndexFunc_twin_Room_twin_Room_sp p (fun y hy => by first | exact hf y hy | simp [hf y hy]) hl hn]
  simp [findI_nn]
theorem G_slices_Delete_twin_Room_twin_Room_h_sp {n i j : Nat} {l : List S_twin_Room} (hij : i ≤ j) (hj : j ≤ l.length) : G_slices_Delete_twin_Room_twin_Room_h n l (i : Int) (j : Int) = some (l.take i ++ l.drop j) := by
  unfold G_slices_Delete_twin_Room_twin_Room_h
  rw [if_pos (by omega)]
  by_cases e : (i : Int) = (j : Int)
  · rw [if_pos e]
    have e : i = j := by omega
    subst e; simp
  · rw [if_neg e]
    simp only [Int.toNat_natCast]
    have hd : (delR l i j l.length).length = l.length := delR_len hij hj
    rw [if_pos (by omega), if_pos (by omega), if_pos (by omega), hd, if_pos (by omega), if_pos (by omega), if_pos (by rw [clrR_len (by omega) (by rw [hd]; omega), hd]; omega)]
    rw [cut_take hij hj]
end Go.Proofs.Ytpeakaeblibfmaa.pv
