/- The plain law of TableTells: pages, joins, others, sizes. -/
import Derived.Test.YtnmpnljjaoddhaaLTab2
namespace Go.Proofs.Ytnmpnljjaoddhaa.tableTells
open Go.RowKit help rep pv
set_option linter.all false
local notation "E0" => S_entry_Entry.mk false false 0 0 false false false

theorem eqS_iff (x y : S_entry_Entry) : eqS_entry_Entry x y = true ↔ x = y := by
  obtain ⟨a, b, c, d, e, f, g⟩ := x
  obtain ⟨a', b', c', d', e', f', g'⟩ := y
  unfold eqS_entry_Entry
  simp
theorem neqS (x : S_entry_Entry) : eqRes .neq (eqS_entry_Entry x x) = false := by rw [(eqS_iff x x).2 rfl]; rfl
theorem neqS_ne {x y : S_entry_Entry} (h : x ≠ y) : eqRes .neq (eqS_entry_Entry x y) = true := by
  cases he : eqS_entry_Entry x y with
  | true => exact absurd ((eqS_iff x y).1 he) h
  | false => rfl
theorem eqP_refl (x : Fin 64 → S_entry_Entry) : eqA_ringref2_Plain x x = true := by
  unfold eqA_ringref2_Plain
  simp only [beq_self_eq_true, Bool.and_self, Bool.and_true]
theorem setA_self {m : Nat} {β : Type} {A : Fin m → β} {j : Nat} {x : β} (h : j < m) : setA A (j : Int) x ⟨j, h⟩ = x := by unfold setA; simp
theorem setA_ne {m : Nat} {β : Type} {A : Fin m → β} {j : Nat} {x : β} {i : Fin m} (h : i.val ≠ j) : setA A (j : Int) x i = A i := by unfold setA; rw [if_neg (by simpa using h)]
/-- all pages -/
def pgs (t : Fin 8 → S_table_Node) : Fin 64 → S_entry_Entry := fun p => atN (t ⟨p.val / 8, by omega⟩) (p.val % 8)
theorem quo8 {i : Nat} (h : i < 1000) : quoI .i64 (i : Int) 8 = ((i / 8 : Nat) : Int) := by rw [quo_i64 (by omega) (by omega) (by omega)]; omega
theorem rem8 {i : Nat} : remI (i : Int) 8 = ((i % 8 : Nat) : Int) := by rw [rem_nn (by omega)]; omega
theorem setA_setA {m : Nat} {β : Type} {A : Fin m → β} {j : Int} {x y : β} : setA (setA A j x) j y = setA A j y := by
  funext i; unfold setA; split <;> rfl
theorem page_step (n i : Nat) (t : Fin 8 → S_table_Node) (nd : S_table_Node) (b : Fin 64 → S_entry_Entry) (hg : Good nd) (hi : i < 64) :
    (G_ringref2_TablePages_C2 n (i : Int) nd t b = some .x1 ∧ atN nd (i % 8) = E0) ∨ G_ringref2_TablePages_C2 n (i : Int) nd t b = some (.x0 (setA b (i : Int) (atN nd (i % 8)))) := by
  have hr : 0 ≤ (i : Int) ∧ (i : Int) < (64 : Int) := by omega
  unfold G_ringref2_TablePages_C2
  cases hg with
  | huge e h1 h2 h3 =>
    have := chk0 h3
    have g0 : getI [e] 0 = some e := rfl
    refine .inr ?_
    simp only [if_true, g0, Option.bind_some, hr, and_self]
    rw [getA_at hi, Option.bind_some, getA_at hi, Option.bind_some, Option.bind_some, setA_self, setA_setA, rem8, wi64 (by omega) (by omega)]
    rfl
  | no => exact .inl ⟨by simp, rfl⟩
  | all es h1 h2 h3 =>
    refine .inr ?_
    have e1 : (es.length : Int) > 0 := by omega
    simp only [Bool.false_eq_true, if_false]
    rw [if_pos e1, rem8, getI_nat, List.getElem?_eq_getElem (show i % 8 < es.length by omega), Option.bind_some, if_pos hr, getA_at hi, Option.bind_some]
    have : atN ⟨false, es⟩ (i % 8) = es[i % 8]'(by omega) := by
      show es.getD (i % 8) E0 = _
      rw [List.getD_eq_getElem?_getD, List.getElem?_eq_getElem (by omega)]; rfl
    rw [this]
theorem pages_l (n : Nat) (t : Fin 8 → S_table_Node) (hg : ∀ j, Good (t j)) : ∀ (k i : Nat), 64 - i < k → i ≤ 64 → G_ringref2_TablePages_L3 n t k (i : Int) (fun p => if p.val < i then pgs t p else E0) = some (.x0 (pgs t))
  | 0, i, h, _ => by omega
  | k + 1, i, h, hi => by
    rw [G_ringref2_TablePages_L3]
    by_cases hlt : (i : Int) < 64
    · have hi6 : i < 64 := by omega
      have h8 : i / 8 < 8 := by omega
      rw [if_pos hlt, quo8 (by omega), if_pos ⟨by omega, by omega⟩, getA_at h8, Option.bind_some, wi_succ (by omega)]
      rcases page_step n i t (t ⟨i / 8, h8⟩) (fun p => if p.val < i then pgs t p else E0) (hg _) hi6 with ⟨h1, h2⟩ | h1
      · rw [h1, Option.bind_some]
        dsimp only
        rw [← pages_l n t hg k (i + 1) (by omega) (by omega)]
        congr 1
        funext p
        rcases Nat.lt_trichotomy p.val i with h' | h' | h'
        · rw [if_pos h', if_pos (by omega)]
        · rw [if_neg (by omega), if_pos (by omega)]
          have : p = ⟨i, hi6⟩ := Fin.ext h'
          rw [this]; exact h2.symm
        · rw [if_neg (by omega), if_neg (by omega)]
      · rw [h1, Option.bind_some]
        dsimp only
        rw [← pages_l n t hg k (i + 1) (by omega) (by omega)]
        congr 1
        funext p
        rcases Nat.lt_trichotomy p.val i with h' | h' | h'
        · rw [setA_ne (by omega), if_pos h', if_pos (by omega)]
        · have : p = ⟨i, hi6⟩ := Fin.ext h'
          rw [this, setA_self, if_pos (by simp)]; rfl
        · rw [setA_ne (by omega), if_neg (by omega), if_neg (by omega)]
    · rw [if_neg hlt]
      congr 2
      funext p
      rw [if_pos (by have := p.isLt; omega)]
theorem pages_any (n : Nat) (t : Fin 8 → S_table_Node) (hg : ∀ j, Good (t j)) (hn : 100 ≤ n) : G_ringref2_TablePages n t = some (pgs t) := by
  unfold G_ringref2_TablePages
  have h := pages_l n t hg n 0 (by omega) (by omega)
  have e : (fun p : Fin 64 => if p.val < 0 then pgs t p else E0) = fun _ => E0 := by funext p; simp
  rw [e] at h
  have h : G_ringref2_TablePages_L3 n t n 0 (fun _ => E0) = _ := h
  rw [h]; rfl
theorem empty_any (n : Nat) (hn : 100 ≤ n) : G_ringlaw2_TableTells_1 n (fun (_ : Fin 8) => S_table_Node.mk false []) = some true := by
  unfold G_ringlaw2_TableTells_1
  rw [pages_any n _ (fun _ => .no) hn, Option.bind_some]
  have : pgs (fun (_ : Fin 8) => S_table_Node.mk false []) = fun _ => E0 := rfl
  rw [this, eqP_refl]; rfl
theorem good_set {t : Fin 8 → S_table_Node} {k : Nat} {nd : S_table_Node} (hg : ∀ j, Good (t j)) (h : Good nd) : ∀ j, Good (setA t (k : Int) nd j) := fun j => by
  unfold setA; split
  · exact h
  · exact hg j
theorem pgs_same {t : Fin 8 → S_table_Node} {k : Nat} (hk : k < 8) {nd : S_table_Node} (h : ∀ j, j < 8 → atN nd j = atN (t ⟨k, hk⟩) j) : pgs (setA t (k : Int) nd) = pgs t := by
  funext p
  have hp := p.isLt
  unfold pgs
  by_cases e : p.val / 8 = k
  · subst e; rw [setA_self, h _ (by omega)]
  · rw [setA_ne (by simpa using e)]
theorem pgs_set {t : Fin 8 → S_table_Node} {p : Nat} (hp : p < 64) {nd : S_table_Node} {x : S_entry_Entry} (h : ∀ j, j < 8 → atN nd j = if j = p % 8 then x else atN (t ⟨p / 8, by omega⟩) j) : pgs (setA t ((p / 8 : Nat) : Int) nd) = setA (pgs t) (p : Int) x := by
  funext q
  have hq := q.isLt
  by_cases e : q.val / 8 = p / 8
  · have : pgs (setA t ((p / 8 : Nat) : Int) nd) q = atN nd (q.val % 8) := by
      unfold pgs
      have : (⟨q.val / 8, by omega⟩ : Fin 8) = ⟨p / 8, by omega⟩ := Fin.ext e
      rw [this, setA_self]
    rw [this, h _ (by omega)]
    by_cases e2 : q.val = p
    · have : q = ⟨p, hp⟩ := Fin.ext e2
      rw [if_pos (by omega), this, setA_self]
    · rw [if_neg (by omega), setA_ne e2]
      unfold pgs
      have : (⟨q.val / 8, by omega⟩ : Fin 8) = ⟨p / 8, by omega⟩ := Fin.ext e
      rw [this]
  · rw [setA_ne (fun e2 => e (by rw [e2]))]
    unfold pgs
    rw [setA_ne (by simpa using e)]
theorem equal_l (n : Nat) (l : List S_entry_Entry) (hl : l.length ≤ 1000) : ∀ (k i : Nat), l.length - i < k → i ≤ l.length → G_slices_Equal_entry_Entry_entry_Entry_L1 n l l k (i : Int) = some .x1
  | 0, i, h, _ => by omega
  | k + 1, i, h, hi => by
    rw [G_slices_Equal_entry_Entry_entry_Entry_L1]
    by_cases hlt : (i : Int) < (l.length : Int)
    · obtain ⟨e, he⟩ := get_lt hlt
      rw [if_pos hlt, getI_nat, he, Option.bind_some, Option.bind_some, neqS, if_neg (by decide), wi_succ (by omega)]
      exact equal_l n l hl k (i + 1) (by omega) (by omega)
    · rw [if_neg hlt]
theorem equal_any (n : Nat) (l : List S_entry_Entry) (hl : l.length ≤ 8) (hn : 20 ≤ n) : G_slices_Equal_entry_Entry_entry_Entry n l l = some true := by
  unfold G_slices_Equal_entry_Entry_entry_Entry
  have h : G_slices_Equal_entry_Entry_entry_Entry_L1 n l l n 0 = _ := equal_l n l (by omega) n 0 (by omega) (by omega)
  rw [if_pos rfl, h]; rfl
theorem others_l (n : Nat) (t : Fin 8 → S_table_Node) (nd : S_table_Node) (hg : ∀ j, Good (t j)) (K : Nat) (hn : 20 ≤ n) : ∀ (k i : Nat), 8 - i < k → i ≤ 8 → G_ringlaw2_others_L2 n (K : Int) t (setA t (K : Int) nd) k (i : Int) = some .x1
  | 0, i, h, _ => by omega
  | k + 1, i, h, hi => by
    rw [G_ringlaw2_others_L2]
    by_cases hlt : (i : Int) < 8
    · have hi8 : i < 8 := by omega
      have hc : G_ringlaw2_others_C1 n (K : Int) (i : Int) t (setA t (K : Int) nd) = some (.x0 false) := by
        unfold G_ringlaw2_others_C1
        by_cases e : (i : Int) = (K : Int)
        · rw [if_pos e]
        · have hb : 0 ≤ (i : Int) ∧ (i : Int) < (8 : Int) := ⟨by omega, hlt⟩
          have hne : (⟨i, hi8⟩ : Fin 8).val ≠ K := by simp; omega
          rw [if_neg e]
          simp only [if_pos hb, getA_at hi8, Option.bind_some, setA_ne hne, equal_any n _ (good_len (hg ⟨i, hi8⟩)) hn]
          simp [eqRes]
      rw [if_pos hlt, hc, Option.bind_some]
      dsimp only
      rw [if_neg (by decide), wi_succ (by omega)]
      exact others_l n t nd hg K hn k (i + 1) (by omega) (by omega)
    · rw [if_neg hlt]
theorem others_any (n : Nat) (t : Fin 8 → S_table_Node) (nd : S_table_Node) (hg : ∀ j, Good (t j)) (K : Nat) (hn : 20 ≤ n) : G_ringlaw2_others n t (setA t (K : Int) nd) (K : Int) = some true := by
  unfold G_ringlaw2_others
  have h : G_ringlaw2_others_L2 n (K : Int) t (setA t (K : Int) nd) n 0 = _ := others_l n t nd hg K hn n 0 (by omega) (by omega)
  rw [h]; rfl
/-- the eight pages of a node as one -/
theorem joins_l (n : Nat) (t : Fin 8 → S_table_Node) (hg : ∀ j, Good (t j)) (K : Nat) (hK : K < 8) (first : S_entry_Entry) : ∀ (k i : Nat), 8 - i < k → i ≤ 8 →
    ∃ b : Bool, G_table_Join_L1 n (K : Int) t first k (i : Int) = some (if b = true then .x1 else .x0 8) ∧ G_ringref2_TableJoins_L2 n (K : Int) (pgs t) first k (i : Int) = some (if b = true then .x1 else .x0 false) ∧
      (b = true → (∀ j, i ≤ j → j < 8 → sh (atN (t ⟨K, hK⟩) j) (-(j : Int)) = first) ∧ (i < 8 → first.fHere = true ∧ remI first.fAt 8 = 0))
  | 0, i, h, _ => by omega
  | k + 1, i, h, hi => by
    rw [G_table_Join_L1, G_ringref2_TableJoins_L2]
    by_cases hlt : (i : Int) < 8
    · have hi8 : i < 8 := by omega
      have hk := chk_at (hg ⟨K, hK⟩) hi8
      have hb := chk0 hk
      have e1 : wi .i64 ((wi .i64 (8 * (K : Int))) + (i : Int)) = ((8 * K + i : Nat) : Int) := by
        rw [wi64 (x := 8 * (K : Int)) (by omega) (by omega), wi64 (by omega) (by omega)]; omega
      have hp : pgs t ⟨8 * K + i, by omega⟩ = atN (t ⟨K, hK⟩) i := by
        unfold pgs
        have h1 : (⟨(8 * K + i) / 8, by omega⟩ : Fin 8) = ⟨K, hK⟩ := Fin.ext (show (8 * K + i) / 8 = K by omega)
        have h2 : (8 * K + i) % 8 = i := by omega
        simp only [h1, h2]
      have hs : S_entry_Entry.mk (atN (t ⟨K, hK⟩) i).fHere (atN (t ⟨K, hK⟩) i).fSlot (wi .i64 ((atN (t ⟨K, hK⟩) i).fAt - (i : Int))) (atN (t ⟨K, hK⟩) i).fRights (atN (t ⟨K, hK⟩) i).fUsed (atN (t ⟨K, hK⟩) i).fDirty (atN (t ⟨K, hK⟩) i).fCopy = sh (atN (t ⟨K, hK⟩) i) (-(i : Int)) := by
        rw [wi64 (by omega) (by omega)]; rfl
      have hw : wi .i64 ((atN (t ⟨K, hK⟩) i).fAt - (i : Int)) = (sh (atN (t ⟨K, hK⟩) i) (-(i : Int))).fAt := by rw [wi64 (by omega) (by omega)]; rfl
      have hh : (atN (t ⟨K, hK⟩) i).fHere = (sh (atN (t ⟨K, hK⟩) i) (-(i : Int))).fHere := rfl
      have hq1 : 0 ≤ (K : Int) ∧ (K : Int) < (8 : Int) := by omega
      have hq2 : 0 ≤ ((8 * K + i : Nat) : Int) ∧ ((8 * K + i : Nat) : Int) < (64 : Int) := by omega
      rw [if_pos hlt, if_pos hlt, if_pos hq1, getA_at hK, Option.bind_some, at_any n (hg _) hi8, Option.bind_some, e1, if_pos hq2, getA_at (show 8 * K + i < 64 by omega), Option.bind_some, hp]
      unfold G_ringref2_TableJoins_C1 G_table_huge
      rw [hs, hw, hh]
      by_cases h1 : sh (atN (t ⟨K, hK⟩) i) (-(i : Int)) = first
      · rw [h1, neqS]
        simp only [Bool.false_eq_true, if_false]
        by_cases h2 : first.fHere = true
        · by_cases h3 : remI first.fAt 8 = 0
          · obtain ⟨b, b1, b2, b3⟩ := joins_l n t hg K hK first k (i + 1) (by omega) (by omega)
            refine ⟨b, ?_, ?_, fun hb => ⟨fun j h4 h5 => ?_, fun _ => ⟨h2, h3⟩⟩⟩
            · rw [if_pos h2, h3]; simp only [beq_self_eq_true, Option.bind_some, if_true]; rw [wi_succ (by omega)]; exact b1
            · rw [if_pos h2, h3]; simp only [bne_self_eq_false, Option.bind_some, Bool.false_eq_true, if_false]; rw [wi_succ (by omega)]; exact b2
            · rcases Nat.lt_or_ge i j with h' | h'
              · exact (b3 hb).1 j (by omega) h5
              · have : j = i := by omega
                subst this; exact h1
          · have h4 : (remI first.fAt 8 == 0) = false := by simpa using h3
            have h5 : (remI first.fAt 8 != 0) = true := by simpa using h3
            refine ⟨false, ?_, ?_, fun h => by cases h⟩
            · rw [if_pos h2, h4]; simp
            · rw [if_pos h2, h5]; simp
        · refine ⟨false, ?_, ?_, fun h => by cases h⟩
          · rw [if_neg h2]; simp
          · rw [if_neg h2]; simp
      · refine ⟨false, ?_, ?_, fun h => by cases h⟩
        · rw [if_pos (neqS_ne h1)]; simp
        · rw [if_pos (neqS_ne h1)]; simp
    · rw [if_neg hlt, if_neg hlt]
      exact ⟨true, by simp, by simp, fun _ => ⟨fun j _ _ => by omega, fun _ => by omega⟩⟩
end Go.Proofs.Ytnmpnljjaoddhaa.tableTells
