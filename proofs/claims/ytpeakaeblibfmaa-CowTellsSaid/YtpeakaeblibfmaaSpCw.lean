/- What the library's functions compute, in words of plain lists: written by specs.py. -/
import Derived.Test.YtpeakaeblibfmaaGuCowTells
import Derived.Test.YtpeakaeblibfmaaLib
namespace Go.Proofs.Ytpeakaeblibfmaa.pv
set_option linter.all false
open Go.RowKit help

theorem G_slices_Index_bool_bool_sl (n : Nat) (l : List Bool) (v : Bool) (hl : l.length < 4611686018427387903) : ∀ (k i : Nat), l.length - i < k → i ≤ l.length → ∃ o, G_slices_Index_bool_bool_L1 n l v k (i : Int) = some o ∧ (match o with | .x0 j => ∃ q : Nat, j = ((i + q : Nat) : Int) ∧ (l.drop i)[q]? = some v ∧ ∀ r, r < q → (l.drop i)[r]? ≠ some v | .x1 => v ∉ l.drop i)
  | 0, i, h, _ => by omega
  | k + 1, i, h, hi => by
    rw [G_slices_Index_bool_bool_L1]
    simp only [eqRes, beq_iff_eq]
    by_cases hlt : (i : Int) < (l.length : Int)
    · obtain ⟨x, hx⟩ := get_lt hlt
      rw [if_pos hlt, getI_nat, hx, Option.bind_some, drop_cons hx]
      by_cases e : v = x
      · rw [if_pos (e)]
        exact ⟨_, rfl, 0, by simp, by simp [e], by omega⟩
      · rw [if_neg (e), wi_succ (by omega)]
        obtain ⟨o, h1, h2⟩ := G_slices_Index_bool_bool_sl n l v hl k (i + 1) (by omega) (by omega)
        refine ⟨o, h1, ?_⟩
        cases o with
        | x0 j =>
          obtain ⟨q, q1, q2, q3⟩ := h2
          refine ⟨q + 1, by rw [q1]; congr 1; omega, by simpa using q2, fun r hr => ?_⟩
          cases r with
          | zero => simpa using fun h => e h.symm
          | succ r => simpa using q3 r (by omega)
        | x1 => simpa [e] using h2
    · rw [if_neg hlt, drop_end hlt]
      exact ⟨_, rfl, by simp⟩
theorem G_slices_Index_bool_bool_sp {n : Nat} {l : List Bool} (v : Bool) (hl : l.length < 4611686018427387903) (hn : l.length < n) : (v ∉ l ∧ G_slices_Index_bool_bool n l v = some (-1)) ∨ ∃ q : Nat, G_slices_Index_bool_bool n l v = some (q : Int) ∧ l[q]? = some v ∧ ∀ r, r < q → l[r]? ≠ some v := by
  unfold G_slices_Index_bool_bool
  obtain ⟨o, h1, h2⟩ := G_slices_Index_bool_bool_sl n l v hl n 0 (by omega) (by omega)
  have h1 : G_slices_Index_bool_bool_L1 n l v n 0 = _ := h1
  rw [h1, Option.bind_some]
  cases o with
  | x0 j =>
    obtain ⟨q, rfl, q2, q3⟩ := h2
    refine .inr ⟨q, by simp, by simpa using q2, fun r hr => by simpa using q3 r hr⟩
  | x1 => exact .inl ⟨by simpa using h2, rfl⟩
theorem G_slices_Contains_bool_bool_sp {n : Nat} {l : List Bool} (v : Bool) (hl : l.length < 4611686018427387903) (hn : l.length < n) : ∃ r, G_slices_Contains_bool_bool n l v = some r ∧ (r = true ↔ v ∈ l) := by
  unfold G_slices_Contains_bool_bool
  rcases G_slices_Index_bool_bool_sp (n := n) v hl hn with ⟨h1, h2⟩ | ⟨q, h1, h2, _⟩
  · rw [h2]; exact ⟨_, rfl, by simpa using h1⟩
  · rw [h1]; exact ⟨_, rfl, by simpa using List.mem_of_getElem? h2⟩

theorem G_slices_Equal_byte_byte_sl (n : Nat) (a b : List Int) (hl : a.length < 4611686018427387903) (he : a.length = b.length) : ∀ (k i : Nat), a.length - i < k → i ≤ a.length → ∃ o, G_slices_Equal_byte_byte_L1 n a b k (i : Int) = some o ∧ (match o with | .x0 r => r = false ∧ a.drop i ≠ b.drop i | .x1 => a.drop i = b.drop i)
  | 0, i, h, _ => by omega
  | k + 1, i, h, hi => by
    rw [G_slices_Equal_byte_byte_L1]
    by_cases hlt : (i : Int) < (a.length : Int)
    · obtain ⟨x, hx⟩ := get_lt hlt
      obtain ⟨y, hy⟩ := get_lt (l := b) (i := i) (by omega)
      rw [if_pos hlt, getI_nat, hx, Option.bind_some, getI_nat, hy, Option.bind_some, drop_cons hx, drop_cons hy]
      by_cases e : x = y
      · rw [if_pos e, wi_succ (by omega)]
        obtain ⟨o, h1, h2⟩ := G_slices_Equal_byte_byte_sl n a b hl he k (i + 1) (by omega) (by omega)
        refine ⟨o, h1, ?_⟩
        cases o with
        | x0 r => exact ⟨h2.1, fun h => h2.2 (by simpa [e] using h)⟩
        | x1 => simp [e, h2]
      · rw [if_neg e]
        exact ⟨_, rfl, rfl, fun h => e (by simpa using (List.cons.inj h).1)⟩
    · rw [if_neg hlt, drop_end hlt, drop_end (l := b) (by omega)]
      exact ⟨_, rfl, rfl⟩
theorem G_slices_Equal_byte_byte_sp {n : Nat} (a b : List Int) (hl : a.length < 4611686018427387903) (hn : a.length < n) : ∃ r, G_slices_Equal_byte_byte n a b = some r ∧ (r = true ↔ a = b) := by
  unfold G_slices_Equal_byte_byte
  by_cases he : (a.length : Int) = (b.length : Int)
  · rw [if_pos he]
    obtain ⟨o, h1, h2⟩ := G_slices_Equal_byte_byte_sl n a b hl (by omega) n 0 (by omega) (by omega)
    have h1 : G_slices_Equal_byte_byte_L1 n a b n 0 = _ := h1
    rw [h1, Option.bind_some]
    cases o with
    | x0 r => exact ⟨_, rfl, by simpa [h2.1] using h2.2⟩
    | x1 => exact ⟨_, rfl, by simpa using h2⟩
  · rw [if_neg he]
    exact ⟨_, rfl, by simp; intro h; exact he (by rw [h])⟩
end Go.Proofs.Ytpeakaeblibfmaa.pv
