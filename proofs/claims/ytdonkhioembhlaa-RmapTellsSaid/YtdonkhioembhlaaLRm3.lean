/- RmapTells: the grid, and the pairs of a grid. -/
import Derived.Test.YtdonkhioembhlaaLRm2
namespace Go.Proofs.Ytdonkhioembhlaa.pv
set_option linter.all false
open Go.RowKit help
namespace rm
abbrev Gr := Fin 17 → Fin 64 → Int
/-- the grid tells the pairs -/
def GR (g : Gr) (l : List Pr) : Prop := ∀ s q, (0 ≤ s ∧ s < 17) → (0 ≤ q ∧ q < 64) → (∀ p ∈ l, p.fSpace = s → p.fPage = q → cell g s q = p.fFrame + 1) ∧ ((∀ p ∈ l, ¬ (p.fSpace = s ∧ p.fPage = q)) → cell g s q = 0)
theorem grid_loop (n : Nat) (l : List Pr) (h : okR l) : ∀ (k i : Nat) (B : Gr), l.length - i < k → i ≤ l.length → GR B (l.take i) → ∃ g, G_ringref2_PairGrid_L1 n l k (i : Int) B = some (.x0 g) ∧ GR g l
  | 0, i, B, hk, _, _ => by omega
  | k + 1, i, B, hk, hi, hB => by
    have hl := h.len
    rw [G_ringref2_PairGrid_L1]
    by_cases h1 : i < l.length
    · have hr := h.rg _ (List.getElem_mem h1)
      have hd : l.take (i + 1) = l.take i ++ [l[i]] := List.take_succ_eq_append_getElem h1
      have hs : 0 ≤ l[i].fSpace ∧ l[i].fSpace < 17 := by omega
      have hq : 0 ≤ l[i].fPage ∧ l[i].fPage < 64 := by omega
      obtain ⟨row, g1, g2, g3⟩ := grid_get B hs hq
      have w1 : wi .i64 (l[i].fFrame + 1) = l[i].fFrame + 1 := wi64 (by omega) (by omega)
      rw [if_pos (by omega), getI_nat, List.getElem?_eq_getElem h1, Option.bind_some, if_pos hs, if_pos hq, g1, Option.bind_some, g2, Option.bind_some, wi_succ (by omega), w1]
      refine grid_loop n l h k (i + 1) _ (by omega) (by omega) fun s q hs' hq' => ?_
      rw [g3 _ s q hs' hq', hd]
      obtain ⟨b1, b2⟩ := hB s q hs' hq'
      by_cases e : s = l[i].fSpace ∧ q = l[i].fPage
      · rw [if_pos e]
        refine ⟨fun p hp e1 e2 => ?_, fun hno => ?_⟩
        · rcases List.mem_append.1 hp with hp | hp
          · exfalso
            obtain ⟨j, hj, rfl⟩ := List.mem_iff_getElem.1 hp
            have hj' : j < i := by simp at hj; omega
            have ht : (l.take i)[j] = l[j] := List.getElem_take
            rw [ht] at e1 e2
            exact List.pairwise_iff_getElem.1 h.one j i (by omega) h1 hj' ⟨by omega, by omega⟩
          · simp at hp; rw [hp]
        · exact absurd ⟨e.1.symm, e.2.symm⟩ (hno l[i] (List.mem_append.2 (.inr (List.mem_singleton.2 rfl))))
      · rw [if_neg e]
        refine ⟨fun p hp e1 e2 => ?_, fun hno => b2 fun p hp => hno p (List.mem_append.2 (.inl hp))⟩
        rcases List.mem_append.1 hp with hp | hp
        · exact b1 p hp e1 e2
        · simp at hp; subst hp; exact absurd ⟨e1.symm, e2.symm⟩ e
    · rw [if_neg (by omega)]
      have : i = l.length := by omega
      subst this
      rw [List.take_length] at hB
      exact ⟨B, rfl, hB⟩
theorem grid_any (n : Nat) (hn : 1100 < n) (l : List Pr) (h : okR l) : ∃ g, G_ringref2_PairGrid n l = some g ∧ GR g l := by
  have hl := h.len
  obtain ⟨g, h1, h2⟩ := grid_loop n l h n 0 (fun _ _ => 0) (by omega) (by omega) (fun s q hs hq => ⟨fun p hp => by simp at hp, fun _ => by unfold cell; rw [dif_pos ⟨hs, hq⟩]⟩)
  have h1 : G_ringref2_PairGrid_L1 n l n 0 (fun (_ : Fin 17) => (fun (_ : Fin 64) => 0)) = _ := h1
  refine ⟨g, ?_, h2⟩
  unfold G_ringref2_PairGrid
  rw [h1]; rfl
/-! the pairs of a grid, in order -/
def rowP (g : Gr) (f s : Int) (i : Nat) : List Pr := ((List.range i).filter fun (q : Nat) => cell g s (q : Int) == f + 1).map fun (q : Nat) => ⟨f, s, (q : Int)⟩
def spP (g : Gr) (f : Int) (j : Nat) : List Pr := (List.range j).flatMap fun (s : Nat) => rowP g f (s : Int) 64
def allP (g : Gr) (i : Nat) : List Pr := (List.range i).flatMap fun (f : Nat) => spP g (f : Int) 17
theorem rowP_len (g : Gr) (f s : Int) (i : Nat) : (rowP g f s i).length ≤ i := by
  unfold rowP
  rw [List.length_map]
  exact Nat.le_trans (List.length_filter_le _ _) (by simp)
theorem rowP_succ (g : Gr) (f s : Int) (i : Nat) : rowP g f s (i + 1) = rowP g f s i ++ (if cell g s (i : Int) = f + 1 then [⟨f, s, (i : Int)⟩] else []) := by
  unfold rowP
  rw [List.range_succ, List.filter_append, List.map_append]
  congr 1
  by_cases e : cell g s (i : Int) = f + 1
  · have : (cell g s (i : Int) == f + 1) = true := by simpa using e
    rw [if_pos e, List.filter_cons, if_pos this]; rfl
  · have : ¬ (cell g s (i : Int) == f + 1) = true := by simpa using e
    rw [if_neg e, List.filter_cons, if_neg this]; rfl
theorem spP_succ (g : Gr) (f : Int) (j : Nat) : spP g f (j + 1) = spP g f j ++ rowP g f (j : Int) 64 := by
  unfold spP
  rw [List.range_succ, List.flatMap_append]; simp
theorem allP_succ (g : Gr) (i : Nat) : allP g (i + 1) = allP g i ++ spP g (i : Int) 17 := by
  unfold allP
  rw [List.range_succ, List.flatMap_append]; simp
theorem spP_len (g : Gr) (f : Int) : ∀ j, (spP g f j).length ≤ 64 * j
  | 0 => by simp [spP]
  | j + 1 => by rw [spP_succ, List.length_append]; have := spP_len g f j; have := rowP_len g f (j : Int) 64; omega
theorem allP_len (g : Gr) : ∀ i, (allP g i).length ≤ 1088 * i
  | 0 => by simp [allP]
  | i + 1 => by rw [allP_succ, List.length_append]; have := allP_len g i; have := spP_len g (i : Int) 17; omega
theorem of1_loop (n : Nat) (g : Gr) (f s : Nat) (row : Fin 64 → Int) (hs : s < 17) (hf : f < 64) (hrow : getA g (s : Int) = some row) (w0 : List Pr) (hw : w0.length ≤ 80000) : ∀ (k i : Nat), 64 - i < k → i ≤ 64 →
    G_ringref2_PairsOf_L1 n (f : Int) (s : Int) row g k (i : Int) (w0 ++ rowP g f s i) = some (.x0 (w0 ++ rowP g f s 64))
  | 0, i, h, _ => by omega
  | k + 1, i, h, hi => by
    rw [G_ringref2_PairsOf_L1]
    by_cases h1 : i < 64
    · obtain ⟨y, g1, g2, _⟩ := grid_get g (s := (s : Int)) (q := (i : Int)) (by omega) (by omega)
      rw [hrow] at g1
      obtain rfl := Option.some.inj g1
      have w1 : wi .i64 ((f : Int) + 1) = (f : Int) + 1 := wi64 (by omega) (by omega)
      have ih := of1_loop n g f s row hs hf hrow w0 hw k (i + 1) (by omega) (by omega)
      rw [rowP_succ] at ih
      have hlen := rowP_len g f s i
      rw [if_pos (by omega), g2, Option.bind_some, w1, wi_succ (by omega)]
      by_cases e : cell g (s : Int) (i : Int) = (f : Int) + 1
      · rw [if_pos e] at ih
        rw [if_pos e, app24 (by rw [List.length_append]; simp; omega), Option.bind_some, List.append_assoc]
        exact ih
      · rw [if_neg e, List.append_nil] at ih
        rw [if_neg e]
        exact ih
    · rw [if_neg (by omega)]
      have : i = 64 := by omega
      rw [this]
theorem of2_loop (n : Nat) (hn : 200 < n) (g : Gr) (f : Nat) (hf : f < 64) (w0 : List Pr) (hw : w0.length ≤ 70000) : ∀ (k j : Nat), 17 - j < k → j ≤ 17 →
    G_ringref2_PairsOf_L2 n (f : Int) g k (j : Int) (w0 ++ spP g f j) = some (.x0 (w0 ++ spP g f 17))
  | 0, j, h, _ => by omega
  | k + 1, j, h, hj => by
    rw [G_ringref2_PairsOf_L2]
    by_cases h1 : j < 17
    · obtain ⟨y, g1, _, _⟩ := grid_get g (s := (j : Int)) (q := 0) (by omega) (by omega)
      have hlen := spP_len g f j
      have h := of1_loop n g f j y h1 hf g1 (w0 ++ spP g f j) (by rw [List.length_append]; omega) n 0 (by omega) (by omega)
      have e0 : rowP g f j 0 = [] := rfl
      rw [e0, List.append_nil] at h
      have h : G_ringref2_PairsOf_L1 n (f : Int) (j : Int) y g n 0 (w0 ++ spP g f j) = _ := h
      rw [if_pos (by omega), if_pos ⟨by omega, by omega⟩, g1, Option.bind_some, h, Option.bind_some]
      simp only
      rw [wi_succ (by omega), List.append_assoc, ← spP_succ]
      exact of2_loop n hn g f hf w0 hw k (j + 1) (by omega) (by omega)
    · rw [if_neg (by omega)]
      have : j = 17 := by omega
      rw [this]
theorem of3_loop (n : Nat) (hn : 200 < n) (g : Gr) : ∀ (k i : Nat), 64 - i < k → i ≤ 64 →
    G_ringref2_PairsOf_L3 n g k (i : Int) (allP g i) = some (.x0 (allP g 64))
  | 0, i, h, _ => by omega
  | k + 1, i, h, hi => by
    rw [G_ringref2_PairsOf_L3]
    by_cases h1 : i < 64
    · have hlen := allP_len g i
      have h := of2_loop n hn g i h1 (allP g i) (by omega) n 0 (by omega) (by omega)
      have e0 : spP g i 0 = [] := rfl
      rw [e0, List.append_nil] at h
      have h : G_ringref2_PairsOf_L2 n (i : Int) g n 0 (allP g i) = _ := h
      rw [if_pos (by omega), h, Option.bind_some]
      simp only
      rw [wi_succ (by omega), ← allP_succ]
      exact of3_loop n hn g k (i + 1) (by omega) (by omega)
    · rw [if_neg (by omega)]
      have : i = 64 := by omega
      rw [this]
theorem of_any (n : Nat) (hn : 200 < n) (g : Gr) : G_ringref2_PairsOf n g = some (allP g 64) := by
  unfold G_ringref2_PairsOf
  have h := of3_loop n hn g n 0 (by omega) (by omega)
  have e0 : allP g 0 = [] := rfl
  rw [e0] at h
  have h : G_ringref2_PairsOf_L3 n g n 0 [] = _ := h
  rw [h]; rfl
theorem mem_row (g : Gr) (f s : Int) (p : Pr) : p ∈ rowP g f s 64 ↔ p.fFrame = f ∧ p.fSpace = s ∧ (0 ≤ p.fPage ∧ p.fPage < 64) ∧ cell g s p.fPage = f + 1 := by
  unfold rowP
  rw [List.mem_map]
  constructor
  · rintro ⟨q, h1, rfl⟩
    simp only [List.mem_filter, List.mem_range, beq_iff_eq] at h1
    exact ⟨rfl, rfl, ⟨by show 0 ≤ (q : Int); omega, by show (q : Int) < 64; omega⟩, h1.2⟩
  · rintro ⟨h1, h2, ⟨h3, h4⟩, h5⟩
    refine ⟨p.fPage.toNat, ?_, ?_⟩
    · simp only [List.mem_filter, List.mem_range, beq_iff_eq, Int.toNat_of_nonneg h3]
      exact ⟨by omega, h5⟩
    · obtain ⟨a, b, c⟩ := p
      simp only at h1 h2 h3
      rw [h1, h2, Int.toNat_of_nonneg h3]
theorem mem_all (g : Gr) (p : Pr) : p ∈ allP g 64 ↔ (0 ≤ p.fFrame ∧ p.fFrame < 64) ∧ (0 ≤ p.fSpace ∧ p.fSpace < 17) ∧ (0 ≤ p.fPage ∧ p.fPage < 64) ∧ cell g p.fSpace p.fPage = p.fFrame + 1 := by
  unfold allP
  simp only [List.mem_flatMap, List.mem_range, spP, mem_row]
  constructor
  · rintro ⟨f, hf, s, hs, h1, h2, h3, h4⟩
    refine ⟨⟨by omega, by omega⟩, ⟨by omega, by omega⟩, h3, ?_⟩
    rw [h1, h2]; exact h4
  · rintro ⟨h1, h2, h3, h4⟩
    refine ⟨p.fFrame.toNat, by omega, p.fSpace.toNat, by omega, by omega, by omega, h3, ?_⟩
    rw [Int.toNat_of_nonneg h1.1, Int.toNat_of_nonneg h2.1]; exact h4
theorem row_up (g : Gr) (f s : Int) (i : Nat) : (rowP g f s i).Pairwise ltP := by
  unfold rowP
  rw [List.pairwise_map]
  have h : (List.range i).Pairwise (fun a b => a < b) := List.pairwise_lt_range
  exact (h.filter _).imp fun {a b} hab => .inr ⟨rfl, .inr ⟨rfl, by show (a : Int) < (b : Int); omega⟩⟩
theorem sp_up (g : Gr) (f : Int) (j : Nat) : (spP g f j).Pairwise ltP := by
  unfold spP
  rw [List.pairwise_flatMap]
  refine ⟨fun s _ => row_up g f s 64, ?_⟩
  have h : (List.range j).Pairwise (fun a b => a < b) := List.pairwise_lt_range
  refine h.imp fun {a b} hab x hx y hy => ?_
  rw [mem_row] at hx hy
  exact .inr ⟨by rw [hx.1, hy.1], .inl (by rw [hx.2.1, hy.2.1]; omega)⟩
theorem all_up (g : Gr) (i : Nat) : (allP g i).Pairwise ltP := by
  unfold allP
  rw [List.pairwise_flatMap]
  refine ⟨fun f _ => sp_up g f 17, ?_⟩
  have h : (List.range i).Pairwise (fun a b => a < b) := List.pairwise_lt_range
  refine h.imp fun {a b} hab x hx y hy => ?_
  simp only [spP, List.mem_flatMap, mem_row] at hx hy
  obtain ⟨_, _, hx, _⟩ := hx
  obtain ⟨_, _, hy, _⟩ := hy
  exact .inl (by rw [hx, hy]; omega)
/-- a list that rises and has what the grid has -/
theorem all_eq (g : Gr) (r : List Pr) (h : r.Pairwise ltP) (hm : ∀ p, p ∈ r ↔ (0 ≤ p.fFrame ∧ p.fFrame < 64) ∧ (0 ≤ p.fSpace ∧ p.fSpace < 17) ∧ (0 ≤ p.fPage ∧ p.fPage < 64) ∧ cell g p.fSpace p.fPage = p.fFrame + 1) : r = allP g 64 :=
  ltP_ext _ _ h (all_up g 64) fun p => (hm p).trans (mem_all g p).symm
end rm
end Go.Proofs.Ytdonkhioembhlaa.pv
