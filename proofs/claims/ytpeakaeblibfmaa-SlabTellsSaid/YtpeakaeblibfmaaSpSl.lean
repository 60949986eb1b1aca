/- What the library's functions compute, in words of plain lists: written by specs.py. -/
import Derived.Test.YtpeakaeblibfmaaGuSlabTells
import Derived.Test.YtpeakaeblibfmaaLib
namespace Go.Proofs.Ytpeakaeblibfmaa.pv
set_option linter.all false
open Go.RowKit help

theorem G_slices_Index_int_int_sl (n : Nat) (l : List Int) (v : Int) (hl : l.length < 4611686018427387903) : ∀ (k i : Nat), l.length - i < k → i ≤ l.length → ∃ o, G_slices_Index_int_int_L1 n l v k (i : Int) = some o ∧ (match o with | .x0 j => ∃ q : Nat, j = ((i + q : Nat) : Int) ∧ (l.drop i)[q]? = some v ∧ ∀ r, r < q → (l.drop i)[r]? ≠ some v | .x1 => v ∉ l.drop i)
  | 0, i, h, _ => by omega
  | k + 1, i, h, hi => by
    rw [G_slices_Index_int_int_L1]
    by_cases hlt : (i : Int) < (l.length : Int)
    · obtain ⟨x, hx⟩ := get_lt hlt
      rw [if_pos hlt, getI_nat, hx, Option.bind_some, drop_cons hx]
      by_cases e : v = x
      · rw [if_pos (e)]
        exact ⟨_, rfl, 0, by simp, by simp [e], by omega⟩
      · rw [if_neg (e), wi_succ (by omega)]
        obtain ⟨o, h1, h2⟩ := G_slices_Index_int_int_sl n l v hl k (i + 1) (by omega) (by omega)
        refine ⟨o, h1, ?_⟩
        cases o with
        | x0 j =>
          obtain ⟨q, q1, q2, q3⟩ := h2
          refine ⟨q + 1, by rw [q1]; congr 1; omega, by simpa using q2, fun r hr => ?_⟩
          cases r with
          | zero => simpa using fun h => e h.symm
          | succ r => simpa using q3 r (by omega)
        | x1 => simpa [e] using h2
    · rw [if_neg hlt, drop_end hlt]
      exact ⟨_, rfl, by simp⟩
theorem G_slices_Index_int_int_sp {n : Nat} {l : List Int} (v : Int) (hl : l.length < 4611686018427387903) (hn : l.length < n) : (v ∉ l ∧ G_slices_Index_int_int n l v = some (-1)) ∨ ∃ q : Nat, G_slices_Index_int_int n l v = some (q : Int) ∧ l[q]? = some v ∧ ∀ r, r < q → l[r]? ≠ some v := by
  unfold G_slices_Index_int_int
  obtain ⟨o, h1, h2⟩ := G_slices_Index_int_int_sl n l v hl n 0 (by omega) (by omega)
  have h1 : G_slices_Index_int_int_L1 n l v n 0 = _ := h1
  rw [h1, Option.bind_some]
  cases o with
  | x0 j =>
    obtain ⟨q, rfl, q2, q3⟩ := h2
    refine .inr ⟨q, by simp, by simpa using q2, fun r hr => by simpa using q3 r hr⟩
  | x1 => exact .inl ⟨by simpa using h2, rfl⟩
theorem G_slices_Contains_int_int_sp {n : Nat} {l : List Int} (v : Int) (hl : l.length < 4611686018427387903) (hn : l.length < n) : ∃ r, G_slices_Contains_int_int n l v = some r ∧ (r = true ↔ v ∈ l) := by
  unfold G_slices_Contains_int_int
  rcases G_slices_Index_int_int_sp (n := n) v hl hn with ⟨h1, h2⟩ | ⟨q, h1, h2, _⟩
  · rw [h2]; exact ⟨_, rfl, by simpa using h1⟩
  · rw [h1]; exact ⟨_, rfl, by simpa using List.mem_of_getElem? h2⟩
theorem G_slices_IndexFunc_slab_Box_slab_Box_sl (n : Nat) (l : List S_slab_Box) (f : S_slab_Box → Option Bool) (p : S_slab_Box → Bool) (hf : ∀ y ∈ l, f y = some (p y)) (hl : l.length < 4611686018427387903) : ∀ (k i : Nat), l.length - i < k → i ≤ l.length → G_slices_IndexFunc_slab_Box_slab_Box_L1 n l f k (i : Int) = some (match (l.drop i).findIdx? p with | some j => .x0 ((i + j : Nat) : Int) | none => .x1)
  | 0, i, h, _ => by omega
  | k + 1, i, h, hi => by
    rw [G_slices_IndexFunc_slab_Box_slab_Box_L1]
    by_cases hlt : (i : Int) < (l.length : Int)
    · obtain ⟨x, hx⟩ := get_lt hlt
      rw [if_pos hlt, getI_nat, hx, Option.bind_some, hf x (List.mem_of_getElem? hx), Option.bind_some, drop_cons hx, List.findIdx?_cons]
      cases hp : p x with
      | true => simp
      | false =>
        simp only [Bool.false_eq_true, if_false]
        rw [wi_succ (by omega), G_slices_IndexFunc_slab_Box_slab_Box_sl n l f p hf hl k (i + 1) (by omega) (by omega)]
        cases (l.drop (i + 1)).findIdx? p with
        | none => simp
        | some j => simp; omega
    · rw [if_neg hlt, drop_end hlt]; rfl
theorem G_slices_IndexFunc_slab_Box_slab_Box_sp {n : Nat} {l : List S_slab_Box} {f : S_slab_Box → Option Bool} (p : S_slab_Box → Bool) (hf : ∀ y ∈ l, f y = some (p y)) (hl : l.length < 4611686018427387903) (hn : l.length < n) : G_slices_IndexFunc_slab_Box_slab_Box n l f = some (findI p l) := by
  unfold G_slices_IndexFunc_slab_Box_slab_Box
  have h := G_slices_IndexFunc_slab_Box_slab_Box_sl n l f p hf hl n 0 (by omega) (by omega)
  have h : G_slices_IndexFunc_slab_Box_slab_Box_L1 n l f n 0 = _ := h
  rw [h, Option.bind_some, List.drop_zero, findI]
  cases l.findIdx? p <;> simp
theorem G_slices_ContainsFunc_slab_Box_slab_Box_sp {n : Nat} {l : List S_slab_Box} {f : S_slab_Box → Option Bool} (p : S_slab_Box → Bool) (hf : ∀ y ∈ l, f y = some (p y)) (hl : l.length < 4611686018427387903) (hn : l.length < n) : G_slices_ContainsFunc_slab_Box_slab_Box n l f = some (l.any p) := by
  unfold G_slices_ContainsFunc_slab_Box_slab_Box
  rw [G_slices_IndexFunc_slab_Box_slab_Box_sp p (fun y hy => by first | exact hf y hy | simp [hf y hy]) hl hn]
  simp [findI_nn]
theorem G_slices_Delete_int_int_h_sp {n i j : Nat} {l : List Int} (hij : i ≤ j) (hj : j ≤ l.length) : G_slices_Delete_int_int_h n l (i : Int) (j : Int) = some (l.take i ++ l.drop j) := by
  unfold G_slices_Delete_int_int_h
  rw [if_pos (by omega)]
  by_cases e : (i : Int) = (j : Int)
  · rw [if_pos e]
    have e : i = j := by omega
    subst e; simp
  · rw [if_neg e]
    simp only [Int.toNat_natCast]
    have hd : (delR l i j l.length).length = l.length := delR_len hij hj
    rw [if_pos (by omega), if_pos (by omega), if_pos (by omega), hd, if_pos (by omega), if_pos (by omega), if_pos (by rw [clrR_len (by omega) (by rw [hd]; omega), hd]; omega)]
    rw [cut_take hij hj]
theorem G_slices_Delete_slab_Box_slab_Box_h_sp {n i j : Nat} {l : List S_slab_Box} (hij : i ≤ j) (hj : j ≤ l.length) : G_slices_Delete_slab_Box_slab_Box_h n l (i : Int) (j : Int) = some (l.take i ++ l.drop j) := by
  unfold G_slices_Delete_slab_Box_slab_Box_h
  rw [if_pos (by omega)]
  by_cases e : (i : Int) = (j : Int)
  · rw [if_pos e]
    have e : i = j := by omega
    subst e; simp
  · rw [if_neg e]
    simp only [Int.toNat_natCast]
    have hd : (delR l i j l.length).length = l.length := delR_len hij hj
    rw [if_pos (by omega), if_pos (by omega), if_pos (by omega), hd, if_pos (by omega), if_pos (by omega), if_pos (by rw [clrR_len (by omega) (by rw [hd]; omega), hd]; omega)]
    rw [cut_take hij hj]
theorem G_slices_Index_bool_bool_sl (n : Nat) (l : List Bool) (v : Bool) (hl : l.length < 4611686018427387903) : ∀ (k i : Nat), l.length - i < k → i ≤ l.length → ∃ o, G_slices_Index_bool_bool_L1 n l v k (i : Int) = some o ∧ (match o with | .x0 j => ∃ q : Nat, j = ((i + q : Nat) : Int) ∧ (l.drop i)[q]? = some v ∧ ∀ r, r < q → (l.drop i)[r]? ≠ some v | .x1 => v ∉ l.drop i)
  | 0, i, h, _ => by omega
  | k + 1, i, h, hi => by
    rw [G_slices_Index_bool_bool_L1]
    simp only [eqRes, beq_iff_eq]
    by_cases hlt : (i : Int) < (l.length : Int)
    · obtain ⟨x, hx⟩ := get_lt hlt
      rw [if_pos hlt, getI_nat, hx, Option.bind_some, drop_cons hx]
      by_cases e : v = x
      · rw [if_pos (e)]
        exact ⟨_, rfl, 0, by simp, by simp [e], by omega⟩
      · rw [if_neg (e), wi_succ (by omega)]
        obtain ⟨o, h1, h2⟩ := G_slices_Index_bool_bool_sl n l v hl k (i + 1) (by omega) (by omega)
        refine ⟨o, h1, ?_⟩
        cases o with
        | x0 j =>
          obtain ⟨q, q1, q2, q3⟩ := h2
          refine ⟨q + 1, by rw [q1]; congr 1; omega, by simpa using q2, fun r hr => ?_⟩
          cases r with
          | zero => simpa using fun h => e h.symm
          | succ r => simpa using q3 r (by omega)
        | x1 => simpa [e] using h2
    · rw [if_neg hlt, drop_end hlt]
      exact ⟨_, rfl, by simp⟩
theorem G_slices_Index_bool_bool_sp {n : Nat} {l : List Bool} (v : Bool) (hl : l.length < 4611686018427387903) (hn : l.length < n) : (v ∉ l ∧ G_slices_Index_bool_bool n l v = some (-1)) ∨ ∃ q : Nat, G_slices_Index_bool_bool n l v = some (q : Int) ∧ l[q]? = some v ∧ ∀ r, r < q → l[r]? ≠ some v := by
  unfold G_slices_Index_bool_bool
  obtain ⟨o, h1, h2⟩ := G_slices_Index_bool_bool_sl n l v hl n 0 (by omega) (by omega)
  have h1 : G_slices_Index_bool_bool_L1 n l v n 0 = _ := h1
  rw [h1, Option.bind_some]
  cases o with
  | x0 j =>
    obtain ⟨q, rfl, q2, q3⟩ := h2
    refine .inr ⟨q, by simp, by simpa using q2, fun r hr => by simpa using q3 r hr⟩
  | x1 => exact .inl ⟨by simpa using h2, rfl⟩
theorem G_slices_Contains_bool_bool_sp {n : Nat} {l : List Bool} (v : Bool) (hl : l.length < 4611686018427387903) (hn : l.length < n) : ∃ r, G_slices_Contains_bool_bool n l v = some r ∧ (r = true ↔ v ∈ l) := by
  unfold G_slices_Contains_bool_bool
  rcases G_slices_Index_bool_bool_sp (n := n) v hl hn with ⟨h1, h2⟩ | ⟨q, h1, h2, _⟩
  · rw [h2]; exact ⟨_, rfl, by simpa using h1⟩
  · rw [h1]; exact ⟨_, rfl, by simpa using List.mem_of_getElem? h2⟩
end Go.Proofs.Ytpeakaeblibfmaa.pv
