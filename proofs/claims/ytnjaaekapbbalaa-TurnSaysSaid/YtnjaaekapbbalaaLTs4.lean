/- TurnSays: the order of a rank. -/
import Derived.Test.YtnjaaekapbbalaaLTs3
namespace Go.Proofs.Ytnjaaekapbbalaa.pv
set_option linter.all false
open Go.RowKit help
namespace ts

theorem at_none (n : Nat) (x : Nat → Nat) (m : Nat) (hm : m ≤ 4) (W out : List Int) (hW : W.length = m) (K : Int) (hz : ∀ j, j < m → x j = 0) : ∀ (k i : Nat), m - i < k → i ≤ m →
    G_turn_At_L1 n W k K (-1) (i : Int) (lst m x) out = some (.x0 K (-1) (lst m x) out)
  | 0, i, hk, _ => by omega
  | k + 1, i, hk, hi => by
    unfold G_turn_At_L1
    by_cases h1 : i < m
    · simp only [Int.toNat_natCast, lst_len, lst_get h1, Option.bind_some]
      rw [if_pos (by omega), if_pos ⟨by omega, h1⟩, if_pos (show (x i : Int) = 0 by rw [hz i h1]; rfl), wi_succ (by omega)]
      exact at_none n x m hm W out hW K hz k (i + 1) (by omega) (by omega)
    · rw [if_neg (by omega)]
theorem at_loop1 (n : Nat) (hn : 20 < n) (x : Nat → Nat) (m : Nat) (hm : m ≤ 4) (hx : ∀ j, m ≤ j → x j = 0) (hs : S x 4 ≤ 12) (W out : List Int) (hW : W.length = m) : ∀ (k i K : Nat), m - i < k → i ≤ m → K + Tt x i < Tt x m →
    ∃ w r, i ≤ w ∧ w < m ∧ 0 < x w ∧ K + Tt x i = Tt x w + r ∧ r < N (dec x w) ∧ G_turn_At_L1 n W k (K : Int) (-1) (i : Int) (lst m x) out = some (.x0 (r : Int) (w : Int) (lst m (dec x w)) out)
  | 0, i, K, hk, _, _ => by omega
  | k + 1, i, K, hk, hi, hK => by
    unfold G_turn_At_L1
    by_cases h1 : i < m
    · have h4 : i < 4 := by omega
      have hxi := x_le (x := x) h4
      have e : Tt x (i + 1) = Tt x i + t x i := rfl
      simp only [Int.toNat_natCast, lst_len, lst_get h1, Option.bind_some]
      rw [if_pos (by omega), if_pos ⟨by omega, h1⟩, wi_succ (i := i) (by omega)]
      by_cases h2 : 0 < x i
      · have hd := dec_S h2 4
        have b1 := Tt_le hs m
        have bm : m * 23298085122481 ≤ 4 * 23298085122481 := Nat.mul_le_mul_right _ hm
        have b2 := t_le (i := i) hs
        have et : t x i = N (dec x i) := by unfold t; rw [if_pos h2]
        have hc := count_ok n hn (dec x i) m hm (sup_dec hx) (by omega)
        have c1 : 0 ≤ (i : Int) ∧ i < m := ⟨by omega, h1⟩
        simp only [if_pos c1]
        rw [if_neg (show ¬ (x i : Int) = 0 by omega), lst_dec h1 h2 (by omega), hc]
        simp only [Option.bind_some, lst_len, lst_get h1, if_pos c1]
        by_cases h3 : (K : Int) ≥ (N (dec x i) : Int)
        · rw [if_pos h3, lst_inc h1 h2 (by omega), wi64 (x := (K : Int) - (N (dec x i) : Int)) (by omega) (by omega)]
          have e3 : (K : Int) - (N (dec x i) : Int) = ((K - N (dec x i) : Nat) : Int) := by omega
          rw [e3]
          obtain ⟨w, r, r1, r2, r3, r4, r5, r6⟩ := at_loop1 n hn x m hm hx hs W out hW k (i + 1) (K - N (dec x i)) (by omega) (by omega) (by omega)
          exact ⟨w, r, by omega, r2, r3, by omega, r5, r6⟩
        · rw [if_neg h3]
          exact ⟨i, K, by omega, h1, h2, by omega, by omega, rfl⟩
      · have et : t x i = 0 := by unfold t; rw [if_neg h2]
        rw [if_pos (show (x i : Int) = 0 by omega)]
        obtain ⟨w, r, r1, r2, r3, r4, r5, r6⟩ := at_loop1 n hn x m hm hx hs W out hW k (i + 1) K (by omega) (by omega) (by omega)
        exact ⟨w, r, by omega, r2, r3, by omega, r5, r6⟩
    · have : i = m := by omega
      subst this
      omega
theorem Tt_stop {x : Nat → Nat} {m : Nat} (h : ∀ j, m ≤ j → x j = 0) : ∀ k, m ≤ k → Tt x k = Tt x m := by
  intro k hk
  induction hk with
  | refl => rfl
  | step hk ih =>
    rw [Tt, ih]
    unfold t
    rw [h _ hk]; rfl
theorem at_loop2 (n : Nat) (hn : 40 < n) (m : Nat) (hm : m ≤ 4) : ∀ (s k : Nat) (x : Nat → Nat) (K : Nat) (out : List Int), S x 4 = s → s < k → (∀ j, m ≤ j → x j = 0) → s ≤ 12 → out.length + s ≤ 12 → K < N x →
    ∃ ol : List Nat, (∀ w ∈ ol, w < 4) ∧ (∀ i, cn ol i = x i) ∧ rank ol = K ∧ G_turn_At_L2 n k (K : Int) (lst m x) out = some (.x0 0 (out ++ il ol))
  | s, 0, _, _, _, _, hk, _, _, _, _ => by omega
  | 0, k + 1, x, K, out, hS, hk, hx, hs, ho, hK => by
    have hz : ∀ j, x j = 0 := fun j => by
      by_cases q : j < 4
      · have := x_le (x := x) q; omega
      · exact hx j (by omega)
    refine ⟨[], by simp, fun i => by rw [hz i]; rfl, ?_, ?_⟩
    · have e : N x = 1 := by
        rw [N_eq, hz 0, hz 1, hz 2, hz 3]; rfl
      show 0 = K
      omega
    · have l := at_none n x m hm (lst m x) out lst_len (K : Int) (fun j _ => hz j) n 0 (by omega) (by omega)
      have l : G_turn_At_L1 n (lst m x) n (K : Int) (-1) 0 (lst m x) out = _ := l
      rw [G_turn_At_L2, l, Option.bind_some]
      simp only
      rw [if_pos (by omega)]
      simp [il]
  | s + 1, k + 1, x, K, out, hS, hk, hx, hs, ho, hK => by
    have hN : N x = Tt x m := by rw [N_rec x (by omega) (by omega)]; exact Tt_stop hx 4 hm
    obtain ⟨w, r, r1, r2, r3, r4, r5, r6⟩ := at_loop1 n (by omega) x m hm hx (by omega) (lst m x) out lst_len n 0 K (by omega) (by omega) (by show K + 0 < _; omega)
    have r6 : G_turn_At_L1 n (lst m x) n (K : Int) (-1) 0 (lst m x) out = _ := r6
    have hd := dec_S r3 4
    rw [if_pos (show w < 4 by omega)] at hd
    obtain ⟨ol, q1, q2, q3, q4⟩ := at_loop2 n hn m hm s k (dec x w) r (out ++ [(w : Int)]) (by omega) (by omega) (sup_dec hx) (by omega) (by simp; omega) r5
    have hcn : cn (w :: ol) = x := by
      rw [cn_cons]
      funext j
      by_cases e : j = w
      · subst e
        rw [if_pos rfl, q2]; unfold dec; rw [if_pos rfl]; omega
      · rw [if_neg e, q2]; unfold dec; rw [if_neg e]
    refine ⟨w :: ol, fun v hv => ?_, fun i => by rw [hcn], ?_, ?_⟩
    · rcases List.mem_cons.1 hv with rfl | hv
      · omega
      · exact q1 v hv
    · rw [rank, hcn, q3, ← r4]; rfl
    · rw [G_turn_At_L2, r6, Option.bind_some]
      simp only
      rw [if_neg (by omega), app_some (by simp; omega) (by omega), Option.bind_some, q4]
      simp [il]
/-- At, of right lengths -/
theorem at_ok (n : Nat) (hn : 40 < n) (x : Nat → Nat) (m : Nat) (hm : m ≤ 4) (hx : ∀ j, m ≤ j → x j = 0) (hs : S x 4 ≤ 12) (K : Nat) (hK : K < N x) :
    ∃ ol : List Nat, (∀ w ∈ ol, w < 4) ∧ (∀ i, cn ol i = x i) ∧ rank ol = K ∧ G_turn_At_J1 n (lst m x) (K : Int) false = some (il ol, 0) := by
  obtain ⟨ol, q1, q2, q3, q4⟩ := at_loop2 n hn m hm (S x 4) n x K [] rfl (by omega) hx hs (by simp; omega) hK
  refine ⟨ol, q1, q2, q3, ?_⟩
  unfold G_turn_At_J1 G_slices_Clone_int_int
  rw [if_neg (by simp), app_some (by simp [lst_len]; omega) (by omega), Option.bind_some, List.nil_append, q4]
  rfl
end ts
end Go.Proofs.Ytnjaaekapbbalaa.pv
