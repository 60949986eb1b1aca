/- What the library's functions compute, in words of plain lists: written by specs.py. -/
import Derived.Test.YtiaebagjcbkkgaaGuTurnPlays
import Derived.Test.YtiaebagjcbkkgaaLib
namespace Go.Proofs.Ytiaebagjcbkkgaa.pv
set_option linter.all false
open Go.RowKit help

theorem G_slices_Equal_uint32_uint32_sl (n : Nat) (a b : List Int) (hl : a.length < 4611686018427387903) (he : a.length = b.length) : ∀ (k i : Nat), a.length - i < k → i ≤ a.length → ∃ o, G_slices_Equal_uint32_uint32_L1 n a b k (i : Int) = some o ∧ (match o with | .x0 r => r = false ∧ a.drop i ≠ b.drop i | .x1 => a.drop i = b.drop i)
  | 0, i, h, _ => by omega
  | k + 1, i, h, hi => by
    rw [G_slices_Equal_uint32_uint32_L1]
    by_cases hlt : (i : Int) < (a.length : Int)
    · obtain ⟨x, hx⟩ := get_lt hlt
      obtain ⟨y, hy⟩ := get_lt (l := b) (i := i) (by omega)
      rw [if_pos hlt, getI_nat, hx, Option.bind_some, getI_nat, hy, Option.bind_some, drop_cons hx, drop_cons hy]
      by_cases e : x = y
      · rw [if_pos e, wi_succ (by omega)]
        obtain ⟨o, h1, h2⟩ := G_slices_Equal_uint32_uint32_sl n a b hl he k (i + 1) (by omega) (by omega)
        refine ⟨o, h1, ?_⟩
        cases o with
        | x0 r => exact ⟨h2.1, fun h => h2.2 (by simpa [e] using h)⟩
        | x1 => simp [e, h2]
      · rw [if_neg e]
        exact ⟨_, rfl, rfl, fun h => e (by simpa using (List.cons.inj h).1)⟩
    · rw [if_neg hlt, drop_end hlt, drop_end (l := b) (by omega)]
      exact ⟨_, rfl, rfl⟩
theorem G_slices_Equal_uint32_uint32_sp {n : Nat} (a b : List Int) (hl : a.length < 4611686018427387903) (hn : a.length < n) : ∃ r, G_slices_Equal_uint32_uint32 n a b = some r ∧ (r = true ↔ a = b) := by
  unfold G_slices_Equal_uint32_uint32
  by_cases he : (a.length : Int) = (b.length : Int)
  · rw [if_pos he]
    obtain ⟨o, h1, h2⟩ := G_slices_Equal_uint32_uint32_sl n a b hl (by omega) n 0 (by omega) (by omega)
    have h1 : G_slices_Equal_uint32_uint32_L1 n a b n 0 = _ := h1
    rw [h1, Option.bind_some]
    cases o with
    | x0 r => exact ⟨_, rfl, by simpa [h2.1] using h2.2⟩
    | x1 => exact ⟨_, rfl, by simpa using h2⟩
  · rw [if_neg he]
    exact ⟨_, rfl, by simp; intro h; exact he (by rw [h])⟩
end Go.Proofs.Ytiaebagjcbkkgaa.pv
