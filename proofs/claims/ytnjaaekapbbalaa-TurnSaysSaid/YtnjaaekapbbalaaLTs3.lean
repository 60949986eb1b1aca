/- TurnSays: what the program answers. -/
import Derived.Test.YtnjaaekapbbalaaLTs2
namespace Go.Proofs.Ytnjaaekapbbalaa.pv
set_option linter.all false
open Go.RowKit help
namespace ts

/-- right lengths, or the same error twice -/
theorem check_loop (n : Nat) (l : List Int) (hl : l.length ≤ 4) : ∀ (k i : Nat), l.length - i < k → i ≤ l.length → (∀ j, j < i → l[j]? = some ((((l[j]?).getD 0).toNat : Nat) : Int)) → S (fun j => ((l[j]?).getD 0).toNat) i ≤ 12 →
    (∃ e, e ≠ 0 ∧ G_turn_Check_L1 n l k (S (fun j => ((l[j]?).getD 0).toNat) i : Int) (i : Int) = some (.x0 e) ∧ G_ringref5_TurnErr_L1 n l k (S (fun j => ((l[j]?).getD 0).toNat) i : Int) (i : Int) = some (.x0 e)) ∨
    (G_turn_Check_L1 n l k (S (fun j => ((l[j]?).getD 0).toNat) i : Int) (i : Int) = some .x1 ∧ G_ringref5_TurnErr_L1 n l k (S (fun j => ((l[j]?).getD 0).toNat) i : Int) (i : Int) = some .x1 ∧
      (∀ j, j < l.length → l[j]? = some ((((l[j]?).getD 0).toNat : Nat) : Int)) ∧ S (fun j => ((l[j]?).getD 0).toNat) l.length ≤ 12)
  | 0, i, hk, _, _, _ => by omega
  | k + 1, i, hk, hi, hb, hs => by
    unfold G_turn_Check_L1 G_ringref5_TurnErr_L1
    by_cases h1 : i < l.length
    · have hg : l[i]? = some l[i] := List.getElem?_eq_getElem h1
      rw [if_pos (by omega), if_pos (by omega), getI_nat, hg, Option.bind_some, Option.bind_some, wi_succ (by omega)]
      by_cases h2 : l[i] < 0
      · rw [if_pos h2, if_pos h2]
        exact .inl ⟨1, by decide, rfl, rfl⟩
      · rw [if_neg h2, if_neg h2]
        by_cases h3 : l[i] > 12
        · rw [if_pos h3, if_pos h3]
          exact .inl ⟨1, by decide, rfl, rfl⟩
        · rw [if_neg h3, if_neg h3, wi64 (by omega) (by omega)]
          have e : S (fun j => ((l[j]?).getD 0).toNat) (i + 1) = S (fun j => ((l[j]?).getD 0).toNat) i + l[i].toNat := by
            rw [S]; simp only [hg, Option.getD_some]
          have e2 : (S (fun j => ((l[j]?).getD 0).toNat) i : Int) + l[i] = (S (fun j => ((l[j]?).getD 0).toNat) (i + 1) : Int) := by omega
          rw [e2]
          by_cases h4 : (S (fun j => ((l[j]?).getD 0).toNat) (i + 1) : Int) > 12
          · rw [if_pos h4, if_pos h4]
            exact .inl ⟨2, by decide, rfl, rfl⟩
          · rw [if_neg h4, if_neg h4]
            exact check_loop n l hl k (i + 1) (by omega) (by omega) (fun j hj => by
              by_cases q : j = i
              · subst q; rw [hg]; simp only [Option.getD_some]; congr 1; omega
              · exact hb j (by omega)) (by omega)
    · have : i = l.length := by omega
      subst this
      rw [if_neg (by omega), if_neg (by omega)]
      exact .inr ⟨rfl, rfl, hb, hs⟩
theorem check_ok (n : Nat) (hn : 20 < n) (l : List Int) :
    (∃ e, e ≠ 0 ∧ G_turn_Check n l = some e ∧ G_ringref5_TurnErr n l = some e) ∨
    ∃ m x, m ≤ 4 ∧ l = lst m x ∧ (∀ j, m ≤ j → x j = 0) ∧ S x 4 ≤ 12 ∧ G_turn_Check n l = some 0 ∧ G_ringref5_TurnErr n l = some 0 := by
  unfold G_turn_Check G_ringref5_TurnErr
  by_cases h : (l.length : Int) > 4
  · rw [if_pos h, if_pos h]
    exact .inl ⟨2, by decide, rfl, rfl⟩
  · rw [if_neg h, if_neg h]
    rcases check_loop n l (by omega) n 0 (by omega) (by omega) (fun j hj => by omega) (by simp [S]) with ⟨e, h0, h1, h2⟩ | ⟨h1, h2, h3, h4⟩
    · have h1 : G_turn_Check_L1 n l n 0 0 = _ := h1
      have h2 : G_ringref5_TurnErr_L1 n l n 0 0 = _ := h2
      rw [h1, h2]
      exact .inl ⟨e, h0, rfl, rfl⟩
    · have h1 : G_turn_Check_L1 n l n 0 0 = _ := h1
      have h2 : G_ringref5_TurnErr_L1 n l n 0 0 = _ := h2
      rw [h1, h2]
      refine .inr ⟨l.length, fun j => ((l[j]?).getD 0).toNat, by omega, ?_, fun j hj => ?_, ?_, rfl, rfl⟩
      · apply List.ext_getElem?
        intro j
        by_cases q : j < l.length
        · rw [lst_get q]; exact h3 j q
        · rw [List.getElem?_eq_none (by omega), List.getElem?_eq_none (by rw [lst_len]; omega)]
      · show ((l[j]?).getD 0).toNat = 0
        rw [List.getElem?_eq_none (by omega)]; rfl
      · have := Pr_stop (x := fun j => ((l[j]?).getD 0).toNat) (m := l.length) (fun j hj => by
          show ((l[j]?).getD 0).toNat = 0
          rw [List.getElem?_eq_none (by omega)]; rfl) 4 (by omega)
        rw [this.2]; exact h4
/-- a list of numbers of steps, one less -/
theorem lst_dec {m i : Nat} {x : Nat → Nat} (hi : i < m) (h : 0 < x i) (hb : x i < 1000000) : (lst m x).set i (wi .i64 ((x i : Int) - 1)) = lst m (dec x i) := by
  have e : wi .i64 ((x i : Int) - 1) = ((x i - 1 : Nat) : Int) := by rw [wi64 (by omega) (by omega)]; omega
  rw [e]
  exact lst_set (fun j hj => by unfold dec; split <;> rename_i q; rw [q]; rfl)
theorem lst_inc {m i : Nat} {x : Nat → Nat} (hi : i < m) (h : 0 < x i) (hb : x i < 1000000) : (lst m (dec x i)).set i (wi .i64 ((dec x i i : Int) + 1)) = lst m x := by
  have e0 : dec x i i = x i - 1 := by simp [dec]
  have e : wi .i64 ((dec x i i : Int) + 1) = (x i : Int) := by rw [e0, wi64 (by omega) (by omega)]; omega
  rw [e]
  exact lst_set (fun j hj => by unfold dec; split <;> rename_i q; rw [q]; rfl)
theorem sup_dec {x : Nat → Nat} {m i : Nat} (h : ∀ j, m ≤ j → x j = 0) : ∀ j, m ≤ j → dec x i j = 0 := fun j hj => by
  unfold dec; rw [h j hj]; split <;> rfl
theorem of_loop2 (n : Nat) (hn : 20 < n) (o : List Int) (q : Int) (x : Nat → Nat) (hx : ∀ j, 4 ≤ j → x j = 0) (hs : S x 4 ≤ 12) (w K : Nat) (hw : w < 4) (hK : K ≤ 1000000000000000) : ∀ (k i : Nat), w - i < k → i ≤ w →
    G_turn_Of_L2 n (w : Int) o q k ((K + Tt x i : Nat) : Int) (i : Int) (lst 4 x) = some (.x0 ((K + Tt x w : Nat) : Int) (lst 4 x))
  | 0, i, hk, _ => by omega
  | k + 1, i, hk, hi => by
    unfold G_turn_Of_L2
    by_cases h1 : i < w
    · have h4 : i < 4 := by omega
      have hxi := x_le (x := x) h4
      have e : Tt x (i + 1) = Tt x i + t x i := rfl
      have ih := of_loop2 n hn o q x hx hs w K hw hK k (i + 1) (by omega) (by omega)
      simp only [Int.toNat_natCast, lst_len, lst_get h4, Option.bind_some]
      rw [if_pos (by omega), if_pos ⟨by omega, h4⟩, wi_succ (i := i) (by omega)]
      by_cases h2 : 0 < x i
      · have hd := dec_S h2 4
        have b1 := Tt_le hs i
        have b2 := t_le (i := i) hs
        have et : t x i = N (dec x i) := by unfold t; rw [if_pos h2]
        have bi : i * 23298085122481 ≤ 3 * 23298085122481 := Nat.mul_le_mul_right _ (by omega)
        have hc := count_ok n hn (dec x i) 4 (Nat.le_refl _) (sup_dec hx) (by omega)
        rw [if_pos (show (x i : Int) > 0 by omega), if_pos ⟨by omega, h4⟩, lst_dec h4 h2 (by omega), hc]
        simp only [Option.bind_some, lst_len, lst_get h4]
        have c4 : 0 ≤ (i : Int) ∧ i < 4 := ⟨by omega, h4⟩
        simp only [if_pos c4]
        rw [lst_inc h4 h2 (by omega), wi64 (x := ((K + Tt x i : Nat) : Int) + (N (dec x i) : Int)) (by omega) (by omega)]
        have e3 : ((K + Tt x i : Nat) : Int) + (N (dec x i) : Int) = ((K + Tt x (i + 1) : Nat) : Int) := by omega
        rw [e3]; exact ih
      · have et : t x i = 0 := by unfold t; rw [if_neg h2]
        rw [if_neg (show ¬ (x i : Int) > 0 by omega)]
        rw [e, et] at ih
        exact ih
    · have : i = w := by omega
      subst this
      rw [if_neg (by omega)]
theorem cn_sup {ol : List Nat} (h : ∀ w ∈ ol, w < 4) : ∀ j, 4 ≤ j → cn ol j = 0 := fun j hj => by
  unfold cn
  exact List.count_eq_zero.2 fun hm => by have := h j hm; omega
theorem of_loop3 (n : Nat) (hn : 20 < n) (ol : List Nat) (h : ∀ w ∈ ol, w < 4) (hl : ol.length ≤ 12) : ∀ (k i K : Nat), ol.length - i < k → i ≤ ol.length → K + (ol.length - i) * 69894255367443 ≤ 12 * 69894255367443 →
    G_turn_Of_L3 n (il ol) k (K : Int) (i : Int) (lst 4 (cn (ol.drop i))) = some (.x0 ((K + rank (ol.drop i) : Nat) : Int))
  | 0, i, K, hk, _, _ => by omega
  | k + 1, i, K, hk, hi, hK => by
    unfold G_turn_Of_L3
    by_cases h1 : i < ol.length
    · have hd : ol.drop i = ol[i] :: ol.drop (i + 1) := List.drop_eq_getElem_cons h1
      have h' : ∀ w ∈ ol.drop i, w < 4 := fun w hw => h w (List.mem_of_mem_drop hw)
      have hw : ol[i] < 4 := h _ (List.getElem_mem h1)
      have hs := cn_S h'
      have hsl : (ol.drop i).length ≤ 12 := by simp; omega
      have l2 := of_loop2 n hn (il ol) (i : Int) (cn (ol.drop i)) (cn_sup h') (by omega) ol[i] K hw (by omega) n 0 (by omega) (by omega)
      have l2 : G_turn_Of_L2 n (ol[i] : Int) (il ol) (i : Int) n (K : Int) 0 (lst 4 (cn (ol.drop i))) = _ := l2
      have hp : 0 < cn (ol.drop i) ol[i] := by rw [hd]; exact cn_pos _ _
      have hb := x_le (x := cn (ol.drop i)) hw
      have b1 := Tt_le (x := cn (ol.drop i)) (by omega) ol[i]
      have bw : ol[i] * 23298085122481 ≤ 3 * 23298085122481 := Nat.mul_le_mul_right _ (by omega)
      rw [if_pos (by rw [il_len]; omega), getI_nat, il_get (List.getElem?_eq_getElem h1), Option.bind_some, l2, Option.bind_some]
      simp only [Int.toNat_natCast, lst_len, lst_get hw, Option.bind_some]
      rw [if_pos ⟨by omega, hw⟩, if_pos ⟨by omega, hw⟩, wi_succ (by omega), lst_dec hw hp (by omega)]
      have e : dec (cn (ol.drop i)) ol[i] = cn (ol.drop (i + 1)) := by rw [hd]; exact cn_dec _ _
      rw [e]
      have ih := of_loop3 n hn ol h hl k (i + 1) (K + Tt (cn (ol.drop i)) ol[i]) (by omega) (by omega) (by omega)
      rw [ih]
      have er : rank (ol.drop i) = Tt (cn (ol.drop i)) ol[i] + rank (ol.drop (i + 1)) := by
        rw [hd, rank]
      rw [er, Nat.add_assoc]
    · have : i = ol.length := by omega
      subst this
      rw [if_neg (by rw [il_len]; omega), List.drop_length]
      rfl
theorem of_loop1 (n : Nat) (ol : List Nat) (h : ∀ w ∈ ol, w < 4) (hl : ol.length ≤ 12) : ∀ (k i : Nat), ol.length - i < k → i ≤ ol.length →
    G_turn_Of_L1 n (il ol) k (i : Int) (lst 4 (cn (ol.take i))) = some (.x1 (lst 4 (cn ol)))
  | 0, i, hk, _ => by omega
  | k + 1, i, hk, hi => by
    unfold G_turn_Of_L1
    by_cases h1 : i < ol.length
    · have hw := h ol[i] (List.getElem_mem h1)
      have ht : ol.take (i + 1) = ol.take i ++ [ol[i]] := List.take_succ_eq_append_getElem h1
      have hc : (cn (ol.take i)) ol[i] ≤ ol.length := Nat.le_trans List.count_le_length (by simp; omega)
      rw [if_pos (by rw [il_len]; omega), getI_nat, il_get (List.getElem?_eq_getElem h1), Option.bind_some, if_neg (by omega), if_neg (by omega)]
      simp only [Int.toNat_natCast, lst_len, lst_get hw, Option.bind_some]
      rw [if_pos ⟨by omega, hw⟩, if_pos ⟨by omega, hw⟩, wi_succ (by omega), wi_succ (by omega)]
      have e : (lst 4 (cn (ol.take i))).set ol[i] (((cn (ol.take i)) ol[i] + 1 : Nat) : Int) = lst 4 (cn (ol.take (i + 1))) := lst_set (fun j hj => by
        unfold cn
        rw [ht, List.count_append]
        by_cases q : j = ol[i]
        · rw [if_pos q, q]; simp
        · have : (ol[i] == j) = false := by simpa using fun z => q z.symm
          rw [if_neg q, List.count_cons, this]; simp)
      rw [e]
      exact of_loop1 n ol h hl k (i + 1) (by omega) (by omega)
    · have : i = ol.length := by omega
      rw [if_neg (by rw [il_len]; omega), this, List.take_length]
theorem of_ok (n : Nat) (hn : 30 < n) (ol : List Nat) (h : ∀ w ∈ ol, w < 4) (hl : ol.length ≤ 12) : G_turn_Of n (il ol) = some ((rank ol : Int), 0) := by
  unfold G_turn_Of
  have hm : mkL 8 (0 : Int) 4 = some (lst 4 (cn [])) := by unfold mkL; rw [if_pos (by decide)]; rfl
  have l1 := of_loop1 n ol h hl n 0 (by omega) (by omega)
  have l1 : G_turn_Of_L1 n (il ol) n 0 (lst 4 (cn [])) = _ := l1
  have l3 := of_loop3 n (by omega) ol h hl n 0 0 (by omega) (by omega) (by omega)
  have l3 : G_turn_Of_L3 n (il ol) n 0 0 (lst 4 (cn ol)) = _ := l3
  rw [if_neg (by rw [il_len]; omega), hm, Option.bind_some, l1, Option.bind_some]
  simp only
  rw [l3, Option.bind_some, Nat.zero_add]
  rfl
end ts
end Go.Proofs.Ytnjaaekapbbalaa.pv
