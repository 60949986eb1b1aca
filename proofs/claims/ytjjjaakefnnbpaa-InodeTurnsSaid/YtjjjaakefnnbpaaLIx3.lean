/- InodeTurns: out of bytes. -/
import Derived.Test.YtjjjaakefnnbpaaLIx2
namespace Go.Proofs.Ytjjjaakefnnbpaa.pv
set_option linter.all false
open Go.RowKit help
namespace xt

/-! out of bytes -/
def okb (b : List Int) : Prop := ∀ x ∈ b, 0 ≤ x ∧ x ≤ 255
theorem unp_loop (n : Nat) (b : List Int) (hb : okb b) (h16 : b.length = 16) : ∀ (k j : Nat) (w : List Ex), 8 - j < k → j ≤ 8 → w.length ≤ j → (∀ e ∈ w, 0 ≤ e.fStart ∧ e.fStart ≤ 255) →
    ∃ F : List Ex, G_extent_Unpack_L1 n b k ((2 * j : Nat) : Int) w = some (.x0 F) ∧ G_ringref3_PointsUnpack_L1 n (b2s b) k ((2 * j : Nat) : Int) (w.map pr) = some (.x0 (F.map pr)) ∧ F.length ≤ 8 ∧ (∀ e ∈ F, 0 ≤ e.fStart ∧ e.fStart ≤ 255)
  | 0, j, w, h, _, _, _ => by omega
  | k + 1, j, w, h, hj, hw, hwf => by
    rw [G_extent_Unpack_L1, G_ringref3_PointsUnpack_L1]
    by_cases h1 : j < 8
    · have l0 : 2 * j < b.length := by omega
      have l1 : 2 * j + 1 < b.length := by omega
      have b0 := hb _ (List.getElem_mem l0)
      have b1 := hb _ (List.getElem_mem l1)
      have g0 := getS_b2s b (2 * j) _ (List.getElem?_eq_getElem l0) b0.1 b0.2
      have g1 := getS_b2s b (2 * j + 1) _ (List.getElem?_eq_getElem l1) b1.1 b1.2
      have e1 : wi .i64 (((2 * j : Nat) : Int) + 1) = ((2 * j + 1 : Nat) : Int) := wi_succ (by omega)
      have e2 : wi .i64 (((2 * j : Nat) : Int) + 2) = ((2 * (j + 1) : Nat) : Int) := by rw [wi64 (by omega) (by omega)]; omega
      rw [if_pos (show ((2 * j : Nat) : Int) < (b.length : Int) by omega), if_pos (show ((2 * j : Nat) : Int) < 16 by omega), e1, e2, g0, g1, getI_nat, getI_nat, List.getElem?_eq_getElem l0, List.getElem?_eq_getElem l1]
      simp only [Option.bind_some]
      by_cases hz : b[2 * j + 1] = 0
      · rw [if_neg (by omega), if_pos hz]
        exact ⟨w, rfl, rfl, by omega, hwf⟩
      · have w0 : wi .i64 b[2 * j] = b[2 * j] := wi64 (by omega) (by omega)
        have w1 : wi .i64 b[2 * j + 1] = b[2 * j + 1] := wi64 (by omega) (by omega)
        rw [if_pos (show b[2 * j + 1] > 0 by omega), if_neg hz, w0, w1, app_some (by simp; omega) (by omega), app_some (by simp; omega) (by omega), Option.bind_some, Option.bind_some]
        have e3 : w.map pr ++ [(fun i : Fin 2 => [b[2 * j], b[2 * j + 1]].get i)] = (w ++ [(⟨b[2 * j], b[2 * j + 1]⟩ : Ex)]).map pr := by
          rw [List.map_append]; rfl
        rw [e3]
        exact unp_loop n b hb h16 k (j + 1) _ (by omega) (by omega) (by simp; omega) (fun e he => by
          rw [List.mem_append, List.mem_singleton] at he
          rcases he with he | rfl
          · exact hwf e he
          · exact b0)
    · rw [if_neg (by omega), if_neg (by omega)]
      exact ⟨w, rfl, rfl, by omega, hwf⟩
theorem unpack_any (n : Nat) (hn : 110 < n) (b : List Int) (hb : okb b) : ∃ r : List Int × Int, G_extent_Unpack n b = some r ∧ G_ringref3_PointsUnpack n (b2s b) = some r ∧ okp r.1 := by
  unfold G_extent_Unpack G_ringref3_PointsUnpack
  rw [b2s_size]
  by_cases h16 : (b.length : Int) = 16
  · obtain ⟨F, f1, f2, f3, f4⟩ := unp_loop n b hb (by omega) n 0 [] (by omega) (by omega) (by simp) (by simp)
    have f1 : G_extent_Unpack_L1 n b n 0 [] = _ := f1
    have f2 : G_ringref3_PointsUnpack_L1 n (b2s b) n 0 [] = _ := f2
    obtain ⟨w, e, p1, p2, p3⟩ := points_any n hn F (by omega) (fun e he => by have := f4 e he; omega)
    rw [if_pos h16, if_pos h16, f1, f2, Option.bind_some, Option.bind_some]
    simp only
    rw [p1, p2, Option.bind_some, Option.bind_some]
    simp only
    by_cases he : e = 0
    · rw [if_pos he, if_pos he, pack_any n hn w p3, ppack_any n hn w p3, Option.bind_some, Option.bind_some]
      simp only [if_true]
      cases (!((b2s (bl (full w) ++ List.replicate (16 - 2 * (full w).length) 0)).toList == (b2s b).toList)) with
      | true => exact ⟨([], 3), rfl, rfl, by simp, by simp⟩
      | false => exact ⟨(w, 0), rfl, rfl, p3⟩
    · rw [if_neg he, if_neg he]
      exact ⟨([], 3), rfl, rfl, by simp, by simp⟩
  · rw [if_neg h16, if_neg h16]
    exact ⟨([], 3), rfl, rfl, by simp, by simp⟩
end xt
end Go.Proofs.Ytjjjaakefnnbpaa.pv
