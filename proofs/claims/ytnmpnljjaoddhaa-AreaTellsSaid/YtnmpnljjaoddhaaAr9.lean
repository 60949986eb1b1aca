/- Areas: the law's codes. -/
import Derived.Test.YtnmpnljjaoddhaaAr8
namespace Go.Proofs.Ytnmpnljjaoddhaa.areaT
open Go.RowKit help rep pv
set_option linter.all false

theorem codes_31 (n : Nat) (l l0 : List A) (ra rb rc : List A × Int) (rd : A × Bool × Int) (re : Int × Int) (y z w : Fin 64 → Int) (P N : Nat) (r : Int) (hx : rt ⟨(P : Int), (N : Int), r⟩) : ∀ (k i : Nat) (a b : Int), N - i < k → i ≤ N →
    ∃ u v, G_ringlaw2_AreaTells_L31 n l0 ra rb rc rd re ⟨(P : Int), (N : Int), r⟩ (pgF l) y z w k a b (i : Int) = some (.x0 u v) ∧
      (((∀ q, (P : Int) + i ≤ q → q < (P : Int) + N → pg l q < 0) ∧ u = a) ∨ ((¬ ∀ q, (P : Int) + i ≤ q → q < (P : Int) + N → pg l q < 0) ∧ u = 5)) ∧
      (((∀ q, (P : Int) + i ≤ q → q < (P : Int) + N → 0 ≤ pg l q) ∧ v = b) ∨ ((¬ ∀ q, (P : Int) + i ≤ q → q < (P : Int) + N → 0 ≤ pg l q) ∧ v = 11))
  | 0, i, a, b, h, _ => by omega
  | k + 1, i, a, b, h, hi => by
    have hx' := hx
    obtain ⟨r1, r2, r3, r4, r5, r6⟩ := hx'
    simp only at r1 r2 r3 r4 r5 r6
    rw [G_ringlaw2_AreaTells_L31, is_any, Option.bind_some, decide_eq_true hx, if_pos rfl]
    simp only
    by_cases hlt : (i : Int) < (N : Int)
    · have e : wi .i64 ((P : Int) + (i : Int)) = ((P + i : Nat) : Int) := by rw [wi64 (by omega) (by omega)]; omega
      have hq : 0 ≤ ((P + i : Nat) : Int) ∧ ((P + i : Nat) : Int) < (64 : Int) := by omega
      have hv : pgF l ⟨P + i, by omega⟩ = pg l ((P : Int) + i) := by unfold pgF; congr 1
      rw [if_pos hlt, e, if_pos hq, getA_at (show P + i < 64 by omega), Option.bind_some, hv, wi_succ (by omega)]
      by_cases c : pg l ((P : Int) + i) ≥ 0
      · obtain ⟨u, v, q1, q2, q3⟩ := codes_31 n l l0 ra rb rc rd re y z w P N r hx k (i + 1) 5 b (by omega) (by omega)
        rw [if_pos c]
        refine ⟨u, v, q1, .inr ⟨fun h => by have := h ((P : Int) + i) (by omega) (by omega); omega, by rcases q2 with q2 | q2 <;> exact q2.2⟩, ?_⟩
        rcases q3 with ⟨q3, q4⟩ | ⟨q3, q4⟩
        · refine .inl ⟨fun q g1 g2 => ?_, q4⟩
          by_cases e2 : q = (P : Int) + i
          · rw [e2]; exact c
          · exact q3 q (by omega) g2
        · exact .inr ⟨fun h => q3 (fun q g1 g2 => h q (by omega) g2), q4⟩
      · obtain ⟨u, v, q1, q2, q3⟩ := codes_31 n l l0 ra rb rc rd re y z w P N r hx k (i + 1) a 11 (by omega) (by omega)
        rw [if_neg c]
        refine ⟨u, v, q1, ?_, .inr ⟨fun h => by have := h ((P : Int) + i) (by omega) (by omega); omega, by rcases q3 with q3 | q3 <;> exact q3.2⟩⟩
        rcases q2 with ⟨q2, q4⟩ | ⟨q2, q4⟩
        · refine .inl ⟨fun q g1 g2 => ?_, q4⟩
          by_cases e2 : q = (P : Int) + i
          · rw [e2]; omega
          · exact q2 q (by omega) g2
        · exact .inr ⟨fun h => q2 (fun q g1 g2 => h q (by omega) g2), q4⟩
    · rw [if_neg hlt]
      exact ⟨a, b, rfl, .inl ⟨fun q g1 g2 => by omega, rfl⟩, .inl ⟨fun q g1 g2 => by omega, rfl⟩⟩
section
variable (n : Nat) (l : List A) (ra rb rc : List A × Int) (rd : A × Bool × Int) (re : Int × Int) (u v : Int) (x : A) (pp y z w : Fin 64 → Int)
theorem k32 (h1 : ra.2 = u) (h2 : rb.2 = 0) (h3 : rc.2 = v) (h4 : u ≠ 0 → ra.1 = []) (h5 : v ≠ 0 → rc.1 = []) : G_ringlaw2_AreaTells_C32 n l ra rb rc rd re u v x pp y z w = some (.x0 false) := by
  unfold G_ringlaw2_AreaTells_C32
  rw [if_pos h1, if_pos h2, if_pos h3]
  by_cases c1 : u = 0
  · by_cases c2 : v = 0
    · rw [if_pos c1, if_pos c2]
    · rw [if_pos c1, if_neg c2, h5 c2]; rfl
  · rw [if_neg c1, h4 c1, if_neg (by simp)]
    by_cases c2 : v = 0
    · rw [if_pos c2]
    · rw [if_neg c2, h5 c2]; rfl
theorem k33 (h1 : u = 0 → G_ringref2_AreasOf n y = some ra.1 ∧ G_ringref2_AreaSame n ra.1 ra.1 = some true) (h2 : G_ringref2_AreasOf n z = some rb.1 ∧ G_ringref2_AreaSame n rb.1 rb.1 = some true) (h3 : v = 0 → G_ringref2_AreasOf n w = some rc.1 ∧ G_ringref2_AreaSame n rc.1 rc.1 = some true) : G_ringlaw2_AreaTells_C33 n l ra rb rc rd re u v x pp y z w = some (.x0 false) := by
  unfold G_ringlaw2_AreaTells_C33
  by_cases c1 : u = 0 <;> by_cases c2 : v = 0
  · simp only [if_pos c1, if_pos c2, (h1 c1).1, (h1 c1).2, h2.1, h2.2, (h3 c2).1, (h3 c2).2, Option.bind_some, if_true, Bool.not_true]
  · simp only [if_pos c1, if_neg c2, (h1 c1).1, (h1 c1).2, h2.1, h2.2, Option.bind_some, if_true]
  · simp only [if_neg c1, if_pos c2, h2.1, h2.2, (h3 c2).1, (h3 c2).2, Option.bind_some, if_true, Bool.not_true]
  · simp only [if_neg c1, if_neg c2, h2.1, h2.2, Option.bind_some, if_true]
theorem k14 (h1 : ra = ([], 1)) (h2 : rb.2 = 0) (h3 : rc = ([], 1)) : G_ringlaw2_AreaTells_C14 n l ra rb rc rd re 1 1 x pp z = some (.x0 false) := by
  unfold G_ringlaw2_AreaTells_C14
  subst h1; subst h3
  simp only [if_true, h2]
  rfl
theorem k15 (h2 : G_ringref2_AreasOf n z = some rb.1 ∧ G_ringref2_AreaSame n rb.1 rb.1 = some true) : G_ringlaw2_AreaTells_C15 n l ra rb rc rd re 1 1 x pp z = some (.x0 false) := by
  unfold G_ringlaw2_AreaTells_C15
  have e : ¬ ((1 : Int) = 0) := by decide
  simp only [if_neg e, h2.1, h2.2, Option.bind_some, if_true]
theorem k5 (h1 : ra = ([], 1)) (h2 : rb = ([], 1)) (h3 : rc = ([], 1)) : G_ringlaw2_AreaTells_C5 n l ra rb rc rd re 1 1 x pp = some (.x0 false) := by
  unfold G_ringlaw2_AreaTells_C5
  subst h1; subst h2; subst h3
  rfl
theorem k6 : G_ringlaw2_AreaTells_C6 n l ra rb rc rd re 1 1 x pp = some (.x0 false) := rfl
end
end Go.Proofs.Ytnmpnljjaoddhaa.areaT
