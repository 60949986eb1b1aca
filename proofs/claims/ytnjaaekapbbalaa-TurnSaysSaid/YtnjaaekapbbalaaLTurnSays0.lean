/- TurnSays: the law in plain terms. -/
import Derived.Test.YtnjaaekapbbalaaLTs4
namespace Go.Proofs.Ytnjaaekapbbalaa.pv
set_option linter.all false
open Go.RowKit help
namespace ts

def bad (i : Int) : Prop := i < 0 ∨ i > 3
instance (i : Int) : Decidable (bad i) := inferInstanceAs (Decidable (_ ∨ _))
theorem bad_ok (n : Nat) (i : Int) : G_ringlaw5_TurnSays_1 n i = some (decide (bad i)) := by
  unfold G_ringlaw5_TurnSays_1
  by_cases h : i < 0
  · rw [if_pos h]; congr 1; exact (decide_eq_true (Or.inl h)).symm
  · rw [if_neg h]; congr 1; exact decide_eq_decide.2 ⟨fun q => .inr q, fun q => q.resolve_left h⟩
theorem idx (n : Nat) (o : List Int) (ho : o.length ≤ 12) : ∀ (k i : Nat), o.length - i < k → i ≤ o.length →
    (G_slices_IndexFunc_int_int_L1 n o (fun (y0 : Int) => G_ringlaw5_TurnSays_1 n y0) k (i : Int) = some .x1 ∧ ∀ j (h : j < o.length), i ≤ j → ¬ bad o[j]) ∨
    ∃ j : Nat, G_slices_IndexFunc_int_int_L1 n o (fun (y0 : Int) => G_ringlaw5_TurnSays_1 n y0) k (i : Int) = some (.x0 (j : Int)) ∧ ∃ h : j < o.length, i ≤ j ∧ bad o[j]
  | 0, i, hk, _ => by omega
  | k + 1, i, hk, hi => by
    unfold G_slices_IndexFunc_int_int_L1
    by_cases h1 : i < o.length
    · rw [if_pos (by omega), getI_nat, List.getElem?_eq_getElem h1, Option.bind_some]
      simp only [bad_ok, Option.bind_some]
      by_cases h2 : bad o[i]
      · rw [decide_eq_true h2, if_pos rfl]
        exact .inr ⟨i, rfl, h1, Nat.le_refl _, h2⟩
      · rw [decide_eq_false h2, if_neg (by simp), wi_succ (by omega)]
        have ih := idx n o ho k (i + 1) (by omega) (by omega)
        simp only [bad_ok] at ih
        rcases ih with ⟨a, b⟩ | ⟨j, a, h, b, c⟩
        · refine .inl ⟨a, fun j h q => ?_⟩
          by_cases e : j = i
          · subst e; exact h2
          · exact b j h (by omega)
        · exact .inr ⟨j, a, h, by omega, c⟩
    · rw [if_neg (by omega)]
      exact .inl ⟨rfl, fun j h q => by omega⟩
theorem of_bad (n : Nat) (o : List Int) (ho : o.length ≤ 12) : ∀ (k i : Nat) (W : List Int), o.length - i < k → W.length = 4 → (∃ (j : Nat) (h : j < o.length), i ≤ j ∧ bad o[j]) → G_turn_Of_L1 n o k (i : Int) W = some (.x0 0 1)
  | 0, i, W, hk, _, ⟨j, h, a, b⟩ => by omega
  | k + 1, i, W, hk, hW, ⟨j, h, a, b⟩ => by
    unfold G_turn_Of_L1
    have h1 : i < o.length := by omega
    rw [if_pos (by omega), getI_nat, List.getElem?_eq_getElem h1, Option.bind_some]
    by_cases h2 : o[i] < 0
    · rw [if_pos h2]
    · rw [if_neg h2]
      by_cases h3 : o[i] ≥ 4
      · rw [if_pos h3]
      · have hi : o[i].toNat < W.length := by omega
        have hj : j ≠ i := fun e => by subst e; rcases b with b | b <;> omega
        have c : 0 ≤ o[i] ∧ o[i].toNat < W.length := ⟨by omega, hi⟩
        rw [if_neg h3]
        simp only [if_pos c, List.getElem?_eq_getElem hi, Option.bind_some]
        rw [wi_succ (i := i) (by omega)]
        exact of_bad n o ho k (i + 1) _ (by omega) (by simp [hW]) ⟨j, h, by omega, b⟩
/-- what is said of an order -/
theorem order_ok (n : Nat) (hn : 60 < n) (lens : List Int) (k : Int) (o : List Int) (r1 : Int × Int) (r2 : List Int × Int) :
    ∃ r3 want, G_turn_Of n o = some r3 ∧ G_ringlaw5_TurnSays_C1 n lens k o r1 r2 r3 = some (.x0 want) ∧ G_ringlaw5_TurnSays_C2 n lens k o r1 r2 r3 want = some (.x0 false) := by
  by_cases hl : (o.length : Int) > 12
  · refine ⟨(0, 2), 2, ?_, ?_, rfl⟩
    · unfold G_turn_Of; rw [if_pos hl]
    · unfold G_ringlaw5_TurnSays_C1; rw [if_pos hl]
  · have hi : ∀ x, G_slices_IndexFunc_int_int_L1 n o (fun (y0 : Int) => G_ringlaw5_TurnSays_1 n y0) n ((0 : Nat) : Int) = x → G_slices_IndexFunc_int_int_L1 n o (fun (y0 : Int) => G_ringlaw5_TurnSays_1 n y0) n 0 = x := fun x h => h
    rcases idx n o (by omega) n 0 (by omega) (by omega) with ⟨a, b⟩ | ⟨j, a, h, b, c⟩
    · have a := hi _ a
      -- all are right
      have e : o = il (o.map Int.toNat) := by
        apply List.ext_getElem (by simp [il])
        intro j h1 h2
        have := b j h1 (by omega)
        simp only [il, List.getElem_map]
        unfold bad at this
        omega
      have hg : ∀ w ∈ o.map Int.toNat, w < 4 := fun w hw => by
        obtain ⟨x, hx, rfl⟩ := List.mem_map.1 hw
        obtain ⟨j, hj, rfl⟩ := List.getElem_of_mem hx
        have := b j hj (by omega)
        unfold bad at this
        omega
      have hl' : (o.map Int.toNat).length ≤ 12 := by simp; omega
      have h1 := of_ok n (by omega) _ hg hl'
      have h2 := rank_ok n _ hg hl' (by omega)
      rw [← e] at h1 h2
      refine ⟨_, 0, h1, ?_, ?_⟩
      · unfold G_ringlaw5_TurnSays_C1 G_slices_ContainsFunc_int_int G_slices_IndexFunc_int_int
        rw [if_neg hl, a]
        rfl
      · unfold G_ringlaw5_TurnSays_C2
        rw [if_pos rfl, if_pos rfl, h2, Option.bind_some]
        simp
    · have a := hi _ a
      refine ⟨(0, 1), 1, ?_, ?_, rfl⟩
      · unfold G_turn_Of
        have hm : mkL 8 (0 : Int) 4 = some [0, 0, 0, 0] := by unfold mkL; rw [if_pos (by decide)]; rfl
        have l := of_bad n o (by omega) n 0 [0, 0, 0, 0] (by omega) rfl ⟨j, h, b, c⟩
        have l : G_turn_Of_L1 n o n 0 [0, 0, 0, 0] = _ := l
        rw [if_neg hl, hm, Option.bind_some, l]; rfl
      · unfold G_ringlaw5_TurnSays_C1 G_slices_ContainsFunc_int_int G_slices_IndexFunc_int_int
        rw [if_neg hl, a]
        simp only [Option.bind_some]
        rw [decide_eq_true (by omega), if_pos rfl]
theorem l5 (n : Nat) (lens : List Int) (k : Int) (ol : List Nat) (f : Int) (i : Nat) (y : Int) (hl : ol.length ≤ 12) : ∀ (m j : Nat), ol.length - j < m → j ≤ ol.length →
    G_ringlaw5_TurnSays_L5 n lens k (il ol) f (i : Int) y m (((ol.take j).count i : Nat) : Int) (j : Int) = some (.x0 ((ol.count i : Nat) : Int))
  | 0, j, hm, _ => by omega
  | m + 1, j, hm, hj => by
    unfold G_ringlaw5_TurnSays_L5
    by_cases h1 : j < ol.length
    · have ih := l5 n lens k ol f i y hl m (j + 1) (by omega) (by omega)
      have ht : ol.take (j + 1) = ol.take j ++ [ol[j]] := List.take_succ_eq_append_getElem h1
      have hc : (ol.take j).count i ≤ 12 := Nat.le_trans List.count_le_length (by simp; omega)
      rw [ht, List.count_append] at ih
      rw [if_pos (by rw [il_len]; omega), getI_nat, il_get (List.getElem?_eq_getElem h1), Option.bind_some, wi_succ (i := j) (by omega)]
      by_cases h2 : ol[j] = i
      · rw [if_pos (by omega), wi_succ (by omega)]
        rw [h2] at ih
        simpa using ih
      · have : (ol[j] == i) = false := by simpa using h2
        rw [if_neg (by omega)]
        rw [List.count_cons, this] at ih
        simpa using ih
    · have : j = ol.length := by omega
      rw [if_neg (by rw [il_len]; omega), this, List.take_length]
theorem l6 (n : Nat) (hn : 30 < n) (x : Nat → Nat) (m : Nat) (hm : m ≤ 4) (k : Int) (ol : List Nat) (f : Int) (hl : ol.length ≤ 12) (hc : ∀ i, cn ol i = x i) : ∀ (q i : Nat), m - i < q → i ≤ m →
    G_ringlaw5_TurnSays_L6 n (lst m x) k (il ol) f q (i : Int) = some .x1
  | 0, i, hq, _ => by omega
  | q + 1, i, hq, hi => by
    unfold G_ringlaw5_TurnSays_L6
    by_cases h1 : i < m
    · have l := l5 n (lst m x) k ol f i (x i : Int) hl n 0 (by omega) (by omega)
      have l : G_ringlaw5_TurnSays_L5 n (lst m x) k (il ol) f (i : Int) (x i : Int) n 0 0 = _ := l
      rw [if_pos (by rw [lst_len]; omega), getI_nat, lst_get h1, Option.bind_some, l, Option.bind_some]
      simp only
      rw [if_pos (by have := hc i; unfold cn at this; omega), wi_succ (by omega)]
      exact l6 n hn x m hm k ol f hl hc q (i + 1) (by omega) (by omega)
    · rw [if_neg (by rw [lst_len]; omega)]
theorem l7 (n : Nat) (x : Nat → Nat) (m : Nat) (hm : m ≤ 4) (k : Int) (l : List Int) (f : Int) (hs : S x m ≤ 12) : ∀ (q i : Nat), m - i < q → i ≤ m →
    G_ringlaw5_TurnSays_L7 n k l f (lst m x) q (S x i : Int) (i : Int) = some (.x0 (S x m : Int))
  | 0, i, hq, _ => by omega
  | q + 1, i, hq, hi => by
    unfold G_ringlaw5_TurnSays_L7
    by_cases h1 : i < m
    · have e : S x (i + 1) = S x i + x i := rfl
      have b := S_le (x := x) (show i + 1 ≤ m by omega)
      rw [if_pos (by rw [lst_len]; omega), getI_nat, lst_get h1, Option.bind_some, wi64 (by omega) (by omega), wi_succ (by omega), ← Int.natCast_add, ← e]
      exact l7 n x m hm k l f hs q (i + 1) (by omega) (by omega)
    · have : i = m := by omega
      rw [if_neg (by rw [lst_len]; omega), this]
theorem H (lens : List Int) (k : Int) (o : List Int) : ∃ n, G_ringlaw5_TurnSays n lens k o = some true := by
  refine ⟨100, ?_⟩
  generalize hn : (100 : Nat) = n
  have hn : 99 < n := by omega
  unfold G_ringlaw5_TurnSays
  rcases check_ok n (by omega) lens with ⟨e, h0, h1, h2⟩ | ⟨m, x, hm, rfl, hx, hs, h1, h2⟩
  · have c : G_turn_Count n lens = some (0, e) := by
      unfold G_turn_Count
      rw [h1, Option.bind_some, if_neg h0]
    have a : G_turn_At n lens k = some ([], e) := by
      unfold G_turn_At
      rw [c, Option.bind_some]
      simp only
      rw [if_neg h0]
    obtain ⟨r3, want, o1, o2, o3⟩ := order_ok n (by omega) lens k o (0, e) ([], e)
    rw [c, Option.bind_some, a, Option.bind_some, o1, Option.bind_some, o2, Option.bind_some]
    simp only
    rw [o3, Option.bind_some]
    simp only
    rw [if_neg (by simp), h2, Option.bind_some, h1, Option.bind_some, if_pos rfl, if_neg h0]
    unfold G_ringlaw5_TurnSays_C3
    rw [if_pos rfl, if_pos rfl, if_pos rfl]
    rfl
  · have hc := count_ok n (by omega) x m hm hx hs
    have c : G_turn_Count n (lst m x) = some ((N x : Int), 0) := by
      unfold G_turn_Count
      rw [h1, Option.bind_some, if_pos rfl, hc]; rfl
    have hof : G_ringref5_OrdersOf n (lst m x) = some (N x : Int) := by
      have e : cpA (fun i : Fin 4 => [0, 0, 0, 0].get i) (lst m x) = F x := by
        funext i
        unfold cpA F
        by_cases q : i.val < m
        · rw [lst_get q]; rfl
        · rw [List.getElem?_eq_none (by rw [lst_len]; omega), hx i.val (by omega)]
          match i with
          | 0 => rfl
          | 1 => rfl
          | 2 => rfl
          | 3 => rfl
      unfold G_ringref5_OrdersOf G_ringref5_four
      rw [e, Option.bind_some]
      have := orders_ok n (by omega) x hs
      have : G_ringref5_Orders n (F x 0) (F x 1) (F x 2) (F x 3) = _ := this
      rw [this]; rfl
    have fin : ∀ a : List Int × Int, G_turn_At n (lst m x) k = some a → (if k < 0 then G_ringlaw5_TurnSays_J2 n (lst m x) k a.1 a.2 true else G_ringlaw5_TurnSays_J2 n (lst m x) k a.1 a.2 (decide (k ≥ (N x : Int)))) = some true → 
        ((G_turn_Count n (lst m x)).bind fun r1 => (G_turn_At n (lst m x) k).bind fun r2 => (G_turn_Of n o).bind fun r3 => (G_ringlaw5_TurnSays_C1 n (lst m x) k o r1 r2 r3).bind fun v => match v with
          | .x0 z => (G_ringlaw5_TurnSays_C2 n (lst m x) k o r1 r2 r3 z).bind fun v => match v with
            | .x0 z => if z = true then some false else (G_ringref5_TurnErr n (lst m x)).bind fun e => (G_turn_Check n (lst m x)).bind fun d => if d = e then (if e = 0 then (G_ringlaw5_TurnSays_C4 n (lst m x) k r1 r2).bind fun v => match v with
              | .x0 z => if z = true then some false else if k < 0 then G_ringlaw5_TurnSays_J2 n (lst m x) k r2.1 r2.2 true else G_ringlaw5_TurnSays_J2 n (lst m x) k r2.1 r2.2 (decide (k ≥ r1.1))
              else (G_ringlaw5_TurnSays_C3 n r1 r2 e).bind fun v => match v with | .x0 z => some z) else some false) = some true := fun a ha hj => by
      obtain ⟨r3, want, o1, o2, o3⟩ := order_ok n (by omega) (lst m x) k o ((N x : Int), 0) a
      have c4 : G_ringlaw5_TurnSays_C4 n (lst m x) k ((N x : Int), 0) a = some (.x0 false) := by
        unfold G_ringlaw5_TurnSays_C4
        rw [if_pos rfl, hof, Option.bind_some]
        simp
      rw [c, Option.bind_some, ha, Option.bind_some, o1, Option.bind_some, o2, Option.bind_some]
      simp only
      rw [o3, Option.bind_some]
      simp only
      rw [if_neg (by simp), h2, Option.bind_some, h1, Option.bind_some, if_pos rfl, if_pos rfl, c4, Option.bind_some]
      simp only
      rw [if_neg (by simp)]
      exact hj
    have hAt : ∀ y, (if k < 0 then G_turn_At_J1 n (lst m x) k true else G_turn_At_J1 n (lst m x) k (decide (k ≥ (N x : Int)))) = y → G_turn_At n (lst m x) k = y := fun y h => by
      unfold G_turn_At
      rw [c, Option.bind_some]
      simp only
      rw [if_pos trivial]
      exact h
    by_cases hk : k < 0
    · refine fin ([], 1) (hAt _ ?_) ?_
      · rw [if_pos hk]; rfl
      · rw [if_pos hk]; rfl
    · by_cases hk2 : k ≥ (N x : Int)
      · refine fin ([], 1) (hAt _ ?_) ?_
        · rw [if_neg hk, decide_eq_true hk2]; rfl
        · rw [if_neg hk, decide_eq_true hk2]; rfl
      · obtain ⟨K, rfl⟩ := Int.eq_ofNat_of_zero_le (show 0 ≤ k by omega)
        obtain ⟨ol, q1, q2, q3, q4⟩ := at_ok n (by omega) x m hm hx hs K (by omega)
        have hcx : cn ol = x := funext q2
        have hlen := cn_S q1
        rw [hcx] at hlen
        have hst := (Pr_stop hx 4 hm).2
        refine fin (il ol, 0) (hAt _ ?_) ?_
        · rw [if_neg hk, decide_eq_false hk2]; exact q4
        · rw [if_neg hk, decide_eq_false hk2]
          have a6 := l6 n (by omega) x m hm (K : Int) ol 0 (by omega) q2 n 0 (by omega) (by omega)
          have a6 : G_ringlaw5_TurnSays_L6 n (lst m x) (K : Int) (il ol) 0 n 0 = _ := a6
          have a7 := l7 n x m hm (K : Int) (il ol) 0 (by omega) n 0 (by omega) (by omega)
          have a7 : G_ringlaw5_TurnSays_L7 n (K : Int) (il ol) 0 (lst m x) n 0 0 = _ := a7
          have a8 := rank_ok n ol q1 (by omega) (by omega)
          unfold G_ringlaw5_TurnSays_J2
          rw [if_neg (by simp)]
          simp only
          rw [a6, Option.bind_some]
          simp only
          rw [a7, Option.bind_some]
          simp only
          unfold G_ringlaw5_TurnSays_C8
          rw [if_pos rfl, if_pos (by rw [il_len]; omega), a8, Option.bind_some, q3]
          simp
end ts
end Go.Proofs.Ytnjaaekapbbalaa.pv
