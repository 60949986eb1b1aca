/- The plain law of TableTells: what each call answers. -/
import Derived.Test.YtnmpnljjaoddhaaLTab3
namespace Go.Proofs.Ytnmpnljjaoddhaa.tableTells
open Go.RowKit help rep pv
set_option linter.all false
local notation "E0" => S_entry_Entry.mk false false 0 0 false false false
local notation "T0" => (fun (_ : Fin 8) => S_table_Node.mk false ([] : List S_entry_Entry))

theorem page_bad (n : Nat) (t : Fin 8 → S_table_Node) (p r : Int) (hc : G_table_Check n t = some r) (hr : r ≠ 0) : G_table_page n t p = some r := by
  unfold G_table_page G_table_page_C1
  simp only [hc, Option.bind_some, if_neg hr, Bool.false_eq_true, if_false]
theorem page_out (n : Nat) (t : Fin 8 → S_table_Node) (p : Int) (hc : G_table_Check n t = some 0) (hp : ¬ (0 ≤ p ∧ p ≤ 63)) : G_table_page n t p = some 1 := by
  unfold G_table_page G_table_page_C1
  simp only [hc, Option.bind_some, if_true]
  by_cases h : p < 0
  · simp [h]
  · have : p ≥ 64 := by omega
    simp [h, this]
theorem page_in (n : Nat) (t : Fin 8 → S_table_Node) (P : Nat) (hc : G_table_Check n t = some 0) (hP : P < 64) : G_table_page n t (P : Int) = some 0 := by
  unfold G_table_page G_table_page_C1
  have h1 : ¬ ((P : Int) < 0) := by omega
  have h2 : ¬ ((P : Int) ≥ 64) := by omega
  simp only [hc, Option.bind_some, if_true, if_neg h1, decide_eq_false h2, Bool.false_eq_true, if_false]
theorem walk_bad (n : Nat) (t : Fin 8 → S_table_Node) (p r : Int) (hp : G_table_page n t p = some r) (hr : r ≠ 0) : G_table_Walk n t p = some (E0, r) := by
  unfold G_table_Walk
  simp only [hp, Option.bind_some, if_neg hr]
theorem set_bad (n : Nat) (t : Fin 8 → S_table_Node) (p r : Int) (x : S_entry_Entry) (hp : G_table_page n t p = some r) (hr : r ≠ 0) : G_table_Set n t p x = some (T0, r) := by
  unfold G_table_Set G_table_Set_C1
  simp only [hp, Option.bind_some, if_neg hr]
theorem set_bad2 (n : Nat) (t : Fin 8 → S_table_Node) (p : Int) (x : S_entry_Entry) (hp : G_table_page n t p = some 0) (hx : chk x ≠ 0) : G_table_Set n t p x = some (T0, chk x) := by
  unfold G_table_Set G_table_Set_C1
  simp only [hp, Option.bind_some, if_true, check_any, if_neg hx]
theorem walk_in (n : Nat) (t : Fin 8 → S_table_Node) (P : Nat) (hc : G_table_Check n t = some 0) (hg : ∀ j, Good (t j)) (hP : P < 64) : G_table_Walk n t (P : Int) = some (pgs t ⟨P, hP⟩, 0) := by
  unfold G_table_Walk
  have hq : 0 ≤ ((P / 8 : Nat) : Int) ∧ ((P / 8 : Nat) : Int) < (8 : Int) := by omega
  simp only [page_in n t P hc hP, Option.bind_some, if_true, quo8 (show P < 1000 by omega), rem8, if_pos hq, getA_at (show P / 8 < 8 by omega), at_any n (hg _) (show P % 8 < 8 by omega)]
  rfl
/-- the node after a page is set -/
def nset (nd : S_table_Node) (k : Nat) (x : S_entry_Entry) : S_table_Node := cln ⟨false, (eight nd).set k x⟩
theorem set_in (n : Nat) (t : Fin 8 → S_table_Node) (P : Nat) (x : S_entry_Entry) (hn : 100 ≤ n) (hc : G_table_Check n t = some 0) (hg : ∀ j, Good (t j)) (hP : P < 64) (hx : chk x = 0) :
    G_table_Set n t (P : Int) x = some (setA t ((P / 8 : Nat) : Int) (nset (t ⟨P / 8, by omega⟩) (P % 8) x), 0) := by
  unfold G_table_Set G_table_Set_C1
  have hq : 0 ≤ ((P / 8 : Nat) : Int) ∧ ((P / 8 : Nat) : Int) < (8 : Int) := by omega
  have h8 : P / 8 < 8 := by omega
  have hr : 0 ≤ ((P % 8 : Nat) : Int) ∧ P % 8 < (eight (t ⟨P / 8, h8⟩)).length := by rw [eight_len]; omega
  simp only [page_in n t P hc hP, Option.bind_some, if_true, check_any, hx, own_any n t hg (by omega), quo8 (show P < 1000 by omega), rem8, if_pos hq, getA_at h8, splith_any n (hg ⟨P / 8, h8⟩) (by omega), Int.toNat_natCast, if_pos hr, eight_get (show P % 8 < 8 by omega),
    clean_any n (S_table_Node.mk false ((eight (t ⟨P / 8, h8⟩)).set (P % 8) x)) (by simp [eight_len]) (by omega)]
  rfl
theorem nset_good {nd : S_table_Node} (hg : Good nd) {k : Nat} (hk : k < 8) {x : S_entry_Entry} (hx : chk x = 0) : Good (nset nd k x) ∧ (nset nd k x).fHuge = false ∧ ∀ j, j < 8 → atN (nset nd k x) j = if j = k then x else atN nd j := by
  obtain ⟨h1, h2, h3⟩ := cln_good (es := (eight nd).set k x) (by simp [eight_len]) (fun e he => by
    obtain ⟨i, hi⟩ := List.getElem?_of_mem he
    have hi8 : i < 8 := by have := (List.getElem?_eq_some_iff.1 hi).1; simpa [eight_len] using this
    by_cases e2 : i = k
    · subst e2; rw [List.getElem?_set_self (by rw [eight_len]; omega)] at hi; cases hi; exact hx
    · rw [List.getElem?_set_ne (fun h => e2 h.symm), eight_get hi8] at hi; cases hi; exact chk_at hg hi8)
  refine ⟨h1, h2, fun j hj => ?_⟩
  have h4 := h3 j hj
  by_cases e : j = k
  · subst e; rw [List.getElem?_set_self (by rw [eight_len]; omega)] at h4; rw [if_pos rfl]; exact (Option.some.inj h4).symm
  · rw [List.getElem?_set_ne (fun h => e h.symm), eight_get hj] at h4; rw [if_neg e]; exact (Option.some.inj h4).symm
theorem join_bad (n : Nat) (t : Fin 8 → S_table_Node) (k r : Int) (hc : G_table_Check n t = some r) (hr : r ≠ 0) : G_table_Join n t k = some (T0, r) := by
  unfold G_table_Join
  simp only [hc, Option.bind_some, if_neg hr]
theorem split_bad (n : Nat) (t : Fin 8 → S_table_Node) (k r : Int) (hc : G_table_Check n t = some r) (hr : r ≠ 0) : G_table_Split n t k = some (T0, r) := by
  unfold G_table_Split
  simp only [hc, Option.bind_some, if_neg hr]
theorem join_out (n : Nat) (t : Fin 8 → S_table_Node) (k : Int) (hc : G_table_Check n t = some 0) (hk : ¬ (0 ≤ k ∧ k ≤ 7)) : G_table_Join n t k = some (T0, 1) := by
  unfold G_table_Join
  simp only [hc, Option.bind_some, if_true]
  by_cases h : k < 0
  · rw [if_pos h]
  · rw [if_neg h, if_pos (by omega)]
theorem split_out (n : Nat) (t : Fin 8 → S_table_Node) (k : Int) (hc : G_table_Check n t = some 0) (hk : ¬ (0 ≤ k ∧ k ≤ 7)) : G_table_Split n t k = some (T0, 1) := by
  unfold G_table_Split
  simp only [hc, Option.bind_some, if_true]
  by_cases h : k < 0
  · rw [if_pos h]
  · rw [if_neg h, if_pos (by omega)]
theorem joins_any (n : Nat) (t : Fin 8 → S_table_Node) (hn : 100 ≤ n) (hc : G_table_Check n t = some 0) (hg : ∀ j, Good (t j)) (K : Nat) (hK : K < 8) :
    ∃ b : Bool, G_table_Join n t (K : Int) = some (if b = true then (setA t (K : Int) ⟨true, [atN (t ⟨K, hK⟩) 0]⟩, 0) else (T0, 8)) ∧ G_ringref2_TableJoins n (pgs t) (K : Int) = some b ∧
      (b = true → Good ⟨true, [atN (t ⟨K, hK⟩) 0]⟩ ∧ ∀ j, j < 8 → atN ⟨true, [atN (t ⟨K, hK⟩) 0]⟩ j = atN (t ⟨K, hK⟩) j) := by
  obtain ⟨b, b1, b2, b3⟩ := joins_l n t hg K hK (atN (t ⟨K, hK⟩) 0) n 0 (by omega) (by omega)
  have b1 : G_table_Join_L1 n (K : Int) t (atN (t ⟨K, hK⟩) 0) n 0 = _ := b1
  have b2 : G_ringref2_TableJoins_L2 n (K : Int) (pgs t) (atN (t ⟨K, hK⟩) 0) n 0 = _ := b2
  have hq : 0 ≤ (K : Int) ∧ (K : Int) < (8 : Int) := by omega
  have a0 : G_table_at n (t ⟨K, hK⟩) 0 = some (atN (t ⟨K, hK⟩) 0) := at_any n (hg _) (k := 0) (by omega)
  have hp : pgs t ⟨8 * K, by omega⟩ = atN (t ⟨K, hK⟩) 0 := by
    unfold pgs
    have h1 : (⟨(8 * K) / 8, by omega⟩ : Fin 8) = ⟨K, hK⟩ := Fin.ext (show (8 * K) / 8 = K by omega)
    have h2 : (8 * K) % 8 = 0 := by omega
    simp only [h1, h2]
  have e1 : wi .i64 (8 * (K : Int)) = ((8 * K : Nat) : Int) := by rw [wi64 (by omega) (by omega)]; omega
  have hq2 : 0 ≤ ((8 * K : Nat) : Int) ∧ ((8 * K : Nat) : Int) < (64 : Int) := by omega
  refine ⟨b, ?_, ?_, fun hb => ?_⟩
  · unfold G_table_Join
    simp only [hc, Option.bind_some, if_true]
    rw [if_neg (by omega), if_neg (by omega), if_pos hq, getA_at hK, Option.bind_some, a0, Option.bind_some, b1, Option.bind_some]
    cases b with
    | false => rfl
    | true =>
      simp only [if_true, own_any n t hg (by omega), Option.bind_some]
      rw [if_pos hq, getA_at hK, Option.bind_some]
  · unfold G_ringref2_TableJoins
    rw [e1, if_pos hq2, getA_at (show 8 * K < 64 by omega), Option.bind_some, hp, b2, Option.bind_some]
    cases b <;> rfl
  · obtain ⟨h1, h2⟩ := b3 hb
    obtain ⟨h3, h4⟩ := h2 (by omega)
    have hk := chk_at (hg ⟨K, hK⟩) (show 0 < 8 by omega)
    have hb := chk0 hk
    refine ⟨.huge _ h3 (by rw [← rem_nn (by omega)]; exact h4) hk, fun j hj => ?_⟩
    have h5 := h1 j (by omega) hj
    have h6 : atN ⟨true, [atN (t ⟨K, hK⟩) 0]⟩ j = sh (atN (t ⟨K, hK⟩) 0) (j : Int) := rfl
    rw [h6, ← h5]
    unfold sh
    simp only [S_entry_Entry.mk.injEq, true_and, and_true]
    obtain ⟨q1, q2, q3, q4, q5, q6, q7⟩ := atN (t ⟨K, hK⟩) j
    simp only [S_entry_Entry.mk.injEq, true_and, and_true]
    omega
theorem split_in (n : Nat) (t : Fin 8 → S_table_Node) (hn : 100 ≤ n) (hc : G_table_Check n t = some 0) (hg : ∀ j, Good (t j)) (K : Nat) (hK : K < 8) :
    G_table_Split n t (K : Int) = some (if (t ⟨K, hK⟩).fHuge = true then (setA t (K : Int) ⟨false, eight (t ⟨K, hK⟩)⟩, 0) else (T0, 8)) := by
  have hq : 0 ≤ (K : Int) ∧ (K : Int) < (8 : Int) := by omega
  unfold G_table_Split
  simp only [hc, Option.bind_some, if_true]
  rw [if_neg (by omega), if_neg (by omega), if_pos hq, getA_at hK, Option.bind_some]
  by_cases h : (t ⟨K, hK⟩).fHuge = true
  · simp only [if_pos h, own_any n t hg (by omega), Option.bind_some, if_pos hq, getA_at hK, split_any n (hg ⟨K, hK⟩) (by omega)]
  · rw [if_neg h, if_neg h]
theorem eight_good {nd : S_table_Node} (hg : Good nd) (hh : nd.fHuge = true) : Good ⟨false, eight nd⟩ ∧ ∀ j, j < 8 → atN ⟨false, eight nd⟩ j = atN nd j := by
  refine ⟨.all _ (eight_len nd) (fun e he => ?_) ⟨atN nd 0, List.mem_of_getElem? (eight_get (show 0 < 8 by omega)), ?_⟩, fun j hj => ?_⟩
  · obtain ⟨i, hi⟩ := List.getElem?_of_mem he
    have hi8 : i < 8 := by have := (List.getElem?_eq_some_iff.1 hi).1; simpa [eight_len] using this
    rw [eight_get hi8] at hi; cases hi; exact chk_at hg hi8
  · cases hg with
    | huge e h1 _ _ =>
      have : atN ⟨true, [e]⟩ 0 = sh e (0 : Nat) := rfl
      rw [this]; unfold nn sh; simp [h1]
    | no => cases hh
    | all es _ _ _ => cases hh
  · show (eight nd).getD j E0 = _
    rw [List.getD_eq_getElem?_getD, eight_get hj]; rfl
theorem size_bad (n : Nat) (t : Fin 8 → S_table_Node) (r : Int) (hc : G_table_Check n t = some r) (hr : r ≠ 0) : G_table_Size n t = some (0, 0, r) := by
  unfold G_table_Size
  simp only [hc, Option.bind_some, if_neg hr]
theorem sizes (n : Nat) (p k4 : Int) (t : Fin 8 → S_table_Node) (x : S_entry_Entry) (ra : S_entry_Entry × Int) (rb rc rd : (Fin 8 → S_table_Node) × Int) (rs : Int × Int × Int) (r z : Int) (pp : Fin 64 → S_entry_Entry) : ∀ (k i : Nat) (a b : Int), 8 - i < k → i ≤ 8 →
    ∃ u v, G_table_Size_L1 n t k a b (i : Int) = some (.x0 u v) ∧ G_ringlaw2_TableTells_L2 n p k4 rc rd rs t x ra rb pp k a b (i : Int) = some (.x0 u v) ∧ G_ringlaw2_TableTells_L6 n p k4 rc rd rs r t x ra rb pp k a b (i : Int) = some (.x0 u v) ∧
      G_ringlaw2_TableTells_L13 n p k4 rc rd rs r z t x ra rb pp k a b (i : Int) = some (.x0 u v) ∧ G_ringlaw2_TableTells_L19 n p k4 rc rd rs r z t x ra rb pp k a b (i : Int) = some (.x0 u v)
  | 0, i, a, b, h, _ => by omega
  | k + 1, i, a, b, h, hi => by
    rw [G_table_Size_L1, G_ringlaw2_TableTells_L2, G_ringlaw2_TableTells_L6, G_ringlaw2_TableTells_L13, G_ringlaw2_TableTells_L19]
    by_cases hlt : (i : Int) < 8
    · have hi8 : i < 8 := by omega
      simp only [if_pos hlt, getA_at hi8, Option.bind_some]
      rw [wi_succ (by omega)]
      by_cases hp : ((t ⟨i, hi8⟩).fEntries.length : Int) > 0
      · simp only [if_pos hp]; exact sizes n p k4 t x ra rb rc rd rs r z pp k (i + 1) _ _ (by omega) (by omega)
      · simp only [if_neg hp]; exact sizes n p k4 t x ra rb rc rd rs r z pp k (i + 1) _ _ (by omega) (by omega)
    · simp only [if_neg hlt]; exact ⟨a, b, rfl, rfl, rfl, rfl, rfl⟩
end Go.Proofs.Ytnmpnljjaoddhaa.tableTells
