/- Plain lemmas on lists for the library's functions. -/
import Derived.Test.YtdimcmpkhbfcnaaMath
import Derived.Test.YtdimcmpkhbfcnaaSb
namespace Go.Proofs.Ytdimcmpkhbfcnaa.pv
set_option linter.all false
open Go.RowKit help

/-- the place of the first one, or -1 -/
def findI {α : Type} (p : α → Bool) (l : List α) : Int := match l.findIdx? p with | some j => (j : Int) | none => -1
theorem findI_nn {α : Type} (p : α → Bool) (l : List α) : decide (findI p l ≥ 0) = l.any p := by
  unfold findI
  cases h : l.findIdx? p with
  | none =>
    rw [List.findIdx?_eq_none_iff] at h
    simp only [show ¬ ((-1 : Int) ≥ 0) by omega, decide_false]
    symm
    rw [List.any_eq_false]
    intro x hx; simp [h x hx]
  | some j =>
    have := List.findIdx?_eq_some_iff_getElem.1 h
    obtain ⟨h1, h2, _⟩ := this
    simp only [show ((j : Int) ≥ 0) by omega, decide_true]
    symm
    rw [List.any_eq_true]
    exact ⟨_, List.getElem_mem h1, h2⟩
theorem findI_cases {α : Type} (p : α → Bool) (l : List α) : (findI p l = -1 ∧ ∀ x ∈ l, p x = false) ∨ ∃ (j : Nat) (x : α), findI p l = (j : Int) ∧ l[j]? = some x ∧ p x = true ∧ ∀ (i : Nat) (y : α), i < j → l[i]? = some y → p y = false := by
  unfold findI
  cases h : l.findIdx? p with
  | none =>
    rw [List.findIdx?_eq_none_iff] at h
    exact .inl ⟨rfl, h⟩
  | some j =>
    obtain ⟨h1, h2, h3⟩ := List.findIdx?_eq_some_iff_getElem.1 h
    refine .inr ⟨j, l[j], rfl, List.getElem?_eq_getElem h1, h2, fun i y hi hy => ?_⟩
    obtain ⟨h4, rfl⟩ := List.getElem?_eq_some_iff.1 hy
    simpa using h3 i hi
theorem findI_lt {α : Type} {p : α → Bool} {l : List α} : findI p l < 0 ↔ ∀ x ∈ l, p x = false := by
  rcases findI_cases p l with ⟨h1, h2⟩ | ⟨j, x, h1, h2, h3, _⟩
  · rw [h1]; simpa using h2
  · rw [h1]
    constructor
    · intro h; omega
    · intro h; rw [h x (List.mem_of_getElem? h2)] at h3; cases h3
theorem delR_len {α : Type} {l : List α} {i j : Nat} (hij : i ≤ j) (hj : j ≤ l.length) : (delR l i j l.length).length = l.length := by
  unfold delR; simp; omega
theorem clrR_len {α : Type} {l : List α} {i j : Nat} {z : α} (hij : i ≤ j) (hj : j ≤ l.length) : (clrR l i j z).length = l.length := by
  unfold clrR; simp; omega
theorem cut_take {α : Type} {l : List α} {i j : Nat} {z : α} (hij : i ≤ j) (hj : j ≤ l.length) : (clrR (delR l i j l.length) (i + (l.length - j)) l.length z).take (i + (l.length - j)) = l.take i ++ l.drop j := by
  unfold clrR
  have h1 : ((delR l i j l.length).take (i + (l.length - j))) = l.take i ++ l.drop j := by
    unfold delR
    rw [List.take_length]
    exact List.take_left' (by simp; omega)
  rw [h1, List.append_assoc]
  exact List.take_left' (by simp; omega)
theorem cpyR_len {α : Type} {l y : List α} {i j : Nat} (hij : i ≤ j) (hj : j ≤ l.length) : (cpyR l i j y).length = l.length := by
  unfold cpyR
  rcases Nat.le_total y.length (j - i) with h | h
  · rw [show Nat.min y.length (j - i) = y.length from Nat.min_eq_left h]; simp; omega
  · rw [show Nat.min y.length (j - i) = j - i from Nat.min_eq_right h]; simp; omega
/-- two slices as one fit into memory if .. -/
theorem app_le {α : Type} {b m : Nat} {xs ys : List α} (h : xs.length + ys.length ≤ m) (hm : m * b ≤ 140737488355328) (hm2 : m ≤ 4611686018427387904) : app b xs ys = some (xs ++ ys) := by
  unfold app
  have : (xs.length + ys.length) * b ≤ m * b := Nat.mul_le_mul_right _ h
  rw [if_pos ⟨by unfold maxLen; omega, by omega⟩]
/-- out of an argument's bound -/
theorem app_arg {α : Type} {b : Nat} {xs : List α} (h : xs.length * b ≤ 140737488351232) (hb : 1 ≤ b) : app b [] xs = some xs := by
  unfold app
  have : xs.length ≤ xs.length * b := Nat.le_mul_of_pos_right _ hb
  rw [if_pos ⟨by simp only [List.length_nil]; unfold maxLen; omega, by simp only [List.length_nil, Nat.zero_add]; omega⟩]
  rfl
end Go.Proofs.Ytdimcmpkhbfcnaa.pv
