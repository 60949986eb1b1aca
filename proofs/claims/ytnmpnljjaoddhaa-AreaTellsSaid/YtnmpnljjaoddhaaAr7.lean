/- Areas: at, gap, and the law's loops. -/
import Derived.Test.YtnmpnljjaoddhaaAr6
namespace Go.Proofs.Ytnmpnljjaoddhaa.areaT
open Go.RowKit help rep pv
set_option linter.all false

theorem at_l (n : Nat) (q : Int) (l : List A) (hl : l.length ≤ 1000) : ∀ (k i : Nat) (lo : Int), l.length - i < k → i ≤ l.length → 0 ≤ lo → Wk lo (l.drop i) →
    G_area_At_L1 n q l k (i : Int) = some (match own_ q (l.drop i) with | some a => .x0 true 0 a | none => .x1)
  | 0, i, lo, h, _, _, _ => by omega
  | k + 1, i, lo, h, hi, hlo, hw => by
    rw [G_area_At_L1]
    by_cases hlt : (i : Int) < (l.length : Int)
    · obtain ⟨a, ha⟩ := get_lt hlt
      rw [drop_cons ha] at hw ⊢
      obtain ⟨h1, h2, h3, h4, h5, h6⟩ := hw
      have e1 : wi .i64 (a.fPage + a.fN) = a.fPage + a.fN := wi64 (by omega) (by omega)
      have ih := at_l n q l hl k (i + 1) (a.fPage + a.fN) (by omega) (by omega) (by omega) h6
      rw [if_pos hlt, getI_nat, ha, Option.bind_some, e1, wi_succ (by omega), own_]
      by_cases c1 : q ≥ a.fPage
      · by_cases c2 : q < a.fPage + a.fN
        · rw [if_pos c1, if_pos c2, if_pos ⟨c1, c2⟩]
        · rw [if_pos c1, if_neg c2, if_neg (fun e => c2 e.2), ih]
      · rw [if_neg c1, if_neg (fun e => c1 e.1), ih]
    · rw [if_neg hlt, drop_end hlt]; rfl
theorem gap_l (n : Nat) (m : Int) (l : List A) (hl : l.length ≤ 1000) : ∀ (k i : Nat) (lo : Int), l.length - i < k → i ≤ l.length → 0 ≤ lo → Wk lo (l.drop i) →
    (∃ z, G_area_Gap_L1 n m l k lo (i : Int) = some (.x0 z 0) ∧ gp m lo (l.drop i) = some z) ∨ (∃ z, G_area_Gap_L1 n m l k lo (i : Int) = some (.x1 z) ∧ 0 ≤ z ∧ z ≤ 64 ∧ gp m lo (l.drop i) = if 64 - z < m then none else some z)
  | 0, i, lo, h, _, _, _ => by omega
  | k + 1, i, lo, h, hi, hlo, hw => by
    have hlo64 := wk_le hw
    rw [G_area_Gap_L1]
    by_cases hlt : (i : Int) < (l.length : Int)
    · obtain ⟨a, ha⟩ := get_lt hlt
      rw [drop_cons ha] at hw ⊢
      obtain ⟨h1, h2, h3, h4, h5, h6⟩ := hw
      have e1 : wi .i64 (a.fPage + a.fN) = a.fPage + a.fN := wi64 (by omega) (by omega)
      have e2 : wi .i64 (a.fPage - lo) = a.fPage - lo := wi64 (by omega) (by omega)
      have ih := gap_l n m l hl k (i + 1) (a.fPage + a.fN) (by omega) (by omega) (by omega) h6
      rw [if_pos hlt, getI_nat, ha, Option.bind_some, e1, e2, wi_succ (by omega), gp]
      by_cases c1 : a.fPage - lo ≥ m
      · rw [if_pos c1, if_pos c1]; exact .inl ⟨lo, rfl, rfl⟩
      · rw [if_neg c1, if_neg c1]; exact ih
    · rw [if_neg hlt, drop_end hlt]
      exact .inr ⟨lo, rfl, hlo, hlo64, rfl⟩
section
variable (n : Nat) (l : List A) (hn : 1001 ≤ n) (hc : G_area_Check n l = some 0) (hw : Nm 0 (-1) l)
include hn hc hw
theorem at_ok {q : Int} (hq : 0 ≤ q ∧ q ≤ 63) : G_area_At n l q = some (match own_ q l with | some a => (a, true, 0) | none => (⟨0, 0, 0⟩, false, 0)) := by
  have hwk := wk_of_nm hw
  have hl := wk_len hwk
  unfold G_area_At
  have h := at_l n q l (by omega) n 0 0 (by omega) (by omega) (by omega) (by rw [List.drop_zero]; exact hwk)
  rw [List.drop_zero] at h
  have h : G_area_At_L1 n q l n 0 = _ := h
  rw [check_ok n l _ hc, if_pos (show rt ⟨q, 1, 0⟩ from ⟨hq.1, by show q < 64; omega, by show (1 : Int) ≤ 1; omega, by show (1 : Int) ≤ 64 - q; omega, by show (0 : Int) ≤ 0; omega, by show (0 : Int) ≤ 7; omega⟩), Option.bind_some, if_pos rfl, h, Option.bind_some]
  cases own_ q l <;> rfl
theorem at_no {q : Int} (hq : ¬ (0 ≤ q ∧ q ≤ 63)) : G_area_At n l q = some (⟨0, 0, 0⟩, false, 1) := by
  unfold G_area_At
  rw [check_ok n l _ hc, if_neg (fun h : rt ⟨q, 1, 0⟩ => hq ⟨h.1, by have := h.2.1; simp only at this; omega⟩), Option.bind_some, if_neg (by decide)]
theorem gap_ok {m : Int} (hm : 1 ≤ m ∧ m ≤ 64) : G_area_Gap n l m = some (match gp m 0 l with | some z => (z, 0) | none => (0, 6)) := by
  have hwk := wk_of_nm hw
  have hl := wk_len hwk
  unfold G_area_Gap
  have h := gap_l n m l (by omega) n 0 0 (by omega) (by omega) (by omega) (by rw [List.drop_zero]; exact hwk)
  rw [List.drop_zero] at h
  rw [check_ok n l _ hc, if_pos (show rt ⟨0, m, 0⟩ from ⟨by show (0 : Int) ≤ 0; omega, by show (0 : Int) < 64; omega, hm.1, by show m ≤ 64 - 0; omega, by show (0 : Int) ≤ 0; omega, by show (0 : Int) ≤ 7; omega⟩), Option.bind_some, if_pos rfl]
  rcases h with ⟨z, h1, h2⟩ | ⟨z, h1, h3, h4, h2⟩
  · have h1 : G_area_Gap_L1 n m l n 0 0 = _ := h1
    rw [h1, Option.bind_some, h2]
  · have h1 : G_area_Gap_L1 n m l n 0 0 = _ := h1
    have e : wi .i64 (64 - z) = 64 - z := wi64 (by omega) (by omega)
    rw [h1, Option.bind_some, h2]
    dsimp only
    rw [e]
    by_cases c : 64 - z < m
    · rw [if_pos c, if_pos c]
    · rw [if_neg c, if_neg c]
theorem gap_no {m : Int} (hm : ¬ (1 ≤ m ∧ m ≤ 64)) : G_area_Gap n l m = some (0, 1) := by
  unfold G_area_Gap
  rw [check_ok n l _ hc, if_neg (fun h : rt ⟨0, m, 0⟩ => hm ⟨h.2.2.1, by have := h.2.2.2.1; simp only at this; omega⟩), Option.bind_some, if_neg (by decide)]
end
end Go.Proofs.Ytnmpnljjaoddhaa.areaT
