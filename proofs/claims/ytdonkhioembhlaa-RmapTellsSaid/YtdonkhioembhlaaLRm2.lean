/- RmapTells: what the operations answer. -/
import Derived.Test.YtdonkhioembhlaaLRm
import Derived.Test.YtdonkhioembhlaaSpRm
namespace Go.Proofs.Ytdonkhioembhlaa.pv
set_option linter.all false
open Go.RowKit help
namespace rm
theorem ltP_ext : ∀ (l1 l2 : List Pr), l1.Pairwise ltP → l2.Pairwise ltP → (∀ x, x ∈ l1 ↔ x ∈ l2) → l1 = l2
  | [], [], _, _, _ => rfl
  | [], b :: l2, _, _, h => by have := (h b).2 (by simp); simp at this
  | a :: l1, [], _, _, h => by have := (h a).1 (by simp); simp at this
  | a :: l1, b :: l2, h1, h2, h => by
    obtain ⟨p1, p2⟩ := List.pairwise_cons.1 h1
    obtain ⟨q1, q2⟩ := List.pairwise_cons.1 h2
    have e : a = b := by
      rcases List.mem_cons.1 ((h a).1 (by simp)) with e | e
      · exact e
      · rcases List.mem_cons.1 ((h b).2 (by simp)) with e' | e'
        · exact e'.symm
        · have := p1 b e'; have := q1 a e; omega
    subst e
    congr 1
    refine ltP_ext l1 l2 p2 q2 fun x => ⟨fun hx => ?_, fun hx => ?_⟩
    · rcases List.mem_cons.1 ((h x).1 (by simp [hx])) with e | e
      · have := p1 x hx; rw [e] at this; omega
      · exact e
    · rcases List.mem_cons.1 ((h x).2 (by simp [hx])) with e | e
      · have := q1 x hx; rw [e] at this; omega
      · exact e
theorem eqP_refl (x : Pr) : eqS_rmap_Pair x x = true := by simp [eqS_rmap_Pair]
theorem same_loop (n : Nat) (a : List Pr) (hl : a.length < 100000) : ∀ (k i : Nat), a.length - i < k → i ≤ a.length → G_ringref2_PairSame_L1 n a a k (i : Int) = some .x1
  | 0, i, h, _ => by omega
  | k + 1, i, h, hi => by
    rw [G_ringref2_PairSame_L1]
    by_cases h1 : i < a.length
    · rw [if_pos (by omega), getI_nat, List.getElem?_eq_getElem h1, Option.bind_some, Option.bind_some, eqP_refl, if_neg (by simp [eqRes]), wi_succ (by omega)]
      exact same_loop n a hl k (i + 1) (by omega) (by omega)
    · rw [if_neg (by omega)]
theorem same_any (n : Nat) (hn : 100000 < n) (a : List Pr) (hl : a.length < 100000) : G_ringref2_PairSame n a a = some true := by
  unfold G_ringref2_PairSame
  have h := same_loop n a hl n 0 (by omega) (by omega)
  have h : G_ringref2_PairSame_L1 n a a n 0 = _ := h
  rw [if_pos rfl, h]; rfl
/-! what every operation asks first -/
theorem ask_bad (n : Nat) (l : List Pr) (p : Pr) (e : Int) (he : e ≠ 0) (h : G_rmap_Check n l = some e) : G_rmap_check n l p = some e := by
  unfold G_rmap_check
  rw [h, Option.bind_some, if_neg he]
theorem ask_ok (n : Nat) (l : List Pr) (p : Pr) (h : G_rmap_Check n l = some 0) : G_rmap_check n l p = some (if rg p then 0 else 1) := by
  unfold G_rmap_check
  rw [h, Option.bind_some, if_pos rfl, right_any, Option.bind_some]
  by_cases hr : rg p
  · rw [decide_eq_true hr, if_pos rfl, if_pos hr]
  · rw [decide_eq_false hr, if_neg (by simp), if_neg hr]
/-! where a page is -/
abbrev isP (s q : Int) (p : Pr) : Bool := decide (p.fSpace = s ∧ p.fPage = q)
theorem find_any (n : Nat) (l : List Pr) (s q : Int) (hl : l.length ≤ 1024) (hn : 1100 < n) :
    (∃ m, ∃ hm : m < l.length, l[m].fSpace = s ∧ l[m].fPage = q ∧ G_rmap_find n l s q = some (m : Int)) ∨ ((∀ p ∈ l, ¬ (p.fSpace = s ∧ p.fPage = q)) ∧ G_rmap_find n l s q = some (-1)) := by
  unfold G_rmap_find
  have hf : ∀ y ∈ l, (fun (y0 : Pr) => G_rmap_find_1 n y0 s q) y = some (isP s q y) := by
    intro y _
    show G_rmap_find_1 n y s q = _
    unfold G_rmap_find_1
    by_cases e : y.fSpace = s
    · rw [if_pos e]; congr 1; rw [Bool.eq_iff_iff]; simp [e]
    · rw [if_neg e]; congr 1; rw [Bool.eq_iff_iff]; simp [e]
  rw [G_slices_IndexFunc_rmap_Pair_rmap_Pair_sp (isP s q) hf (by omega) (by omega), Option.bind_some]
  unfold findI
  cases h : l.findIdx? (isP s q) with
  | none =>
    refine .inr ⟨fun p hp => ?_, rfl⟩
    have := List.findIdx?_eq_none_iff.1 h p hp
    simpa using this
  | some m =>
    obtain ⟨hm, h1, _⟩ := List.findIdx?_eq_some_iff_getElem.1 h
    simp only [decide_eq_true_eq] at h1
    exact .inl ⟨m, hm, h1.1, h1.2, rfl⟩
/-- i0 is the first place at which a pair is not ahead of t -/
structure At (l : List Pr) (t : Pr) (i0 : Nat) : Prop where
  le : i0 ≤ l.length
  lo : ∀ j (hj : j < l.length), j < i0 → ltP l[j] t
  hi : ∀ j (hj : j < l.length), i0 ≤ j → ¬ ltP l[j] t
theorem at_ex (t : Pr) : ∀ (l : List Pr), l.Pairwise ltP → ∃ i0, At l t i0
  | [], _ => ⟨0, ⟨by simp, fun j hj => by simp at hj, fun j hj => by simp at hj⟩⟩
  | a :: l, h => by
    obtain ⟨h1, h2⟩ := List.pairwise_cons.1 h
    by_cases ha : ltP a t
    · obtain ⟨i0, ⟨p1, p2, p3⟩⟩ := at_ex t l h2
      refine ⟨i0 + 1, ⟨by simp; omega, fun j hj hji => ?_, fun j hj hji => ?_⟩⟩
      · cases j with
        | zero => exact ha
        | succ j => exact p2 j (by simpa using hj) (by omega)
      · cases j with
        | zero => omega
        | succ j => exact p3 j (by simpa using hj) (by omega)
    · refine ⟨0, ⟨by simp, fun j hj hji => by omega, fun j hj _ => ?_⟩⟩
      cases j with
      | zero => exact ha
      | succ j =>
        intro q
        exact ha (ltP_trans (h1 _ (List.getElem_mem (by simpa using hj))) q)
theorem half {i j : Nat} (h : i + j ≤ 10000) : wi .i64 (shrI .u64 (wi .u64 (wi .i64 ((i : Int) + (j : Int)))) 1) = (((i + j) / 2 : Nat) : Int) := by
  have w1 : wi .i64 ((i : Int) + (j : Int)) = ((i + j : Nat) : Int) := by rw [wi64 (by omega) (by omega)]; omega
  have w2 : wi .u64 ((i + j : Nat) : Int) = ((i + j : Nat) : Int) := by rw [wi, IntKind.wrap_u64]; omega
  have w3 : shrI .u64 ((i + j : Nat) : Int) 1 = (((i + j) / 2 : Nat) : Int) := by
    have : shrI .u64 ((i + j : Nat) : Int) 1 = Int.fdiv ((i + j : Nat) : Int) (2 ^ 1) := rfl
    rw [this, Int.fdiv_eq_ediv_of_nonneg _ (by decide)]; omega
  rw [w1, w2, w3, wi64 (by omega) (by omega)]
theorem bs_loop (n : Nat) (hn : 200 < n) (l : List Pr) (t : Pr) (i0 : Nat) (A : At l t i0) (hl : l.length ≤ 1024) : ∀ (k i j : Nat), j - i < k → i ≤ i0 → i0 ≤ j → j ≤ l.length →
    G_slices_BinarySearchFunc_rmap_Pair_rmap_Pair_rmap_Pair_L1 n l (fun y0 y1 => G_rmap_order n y0 y1) t k (i : Int) (j : Int) = some (.x0 (i0 : Int))
  | 0, i, j, h, _, _, _ => by omega
  | k + 1, i, j, h, hi, hj, hjl => by
    rw [G_slices_BinarySearchFunc_rmap_Pair_rmap_Pair_rmap_Pair_L1]
    by_cases h1 : i < j
    · have hh : (i + j) / 2 < l.length := by omega
      rw [if_pos (by omega), half (by omega), getI_nat, List.getElem?_eq_getElem hh, Option.bind_some]
      have z2 := ord_lt l[(i + j) / 2] t
      rw [order_any n (by omega), Option.bind_some]
      by_cases e : ordI l[(i + j) / 2] t < 0
      · have hlt := z2.1 e
        have : (i + j) / 2 < i0 := by
          rcases Nat.lt_or_ge ((i + j) / 2) i0 with q | q
          · exact q
          · exact absurd hlt (A.hi _ hh q)
        rw [if_pos e, wi_succ (by omega)]
        exact bs_loop n hn l t i0 A hl k ((i + j) / 2 + 1) j (by omega) (by omega) (by omega) (by omega)
      · have : i0 ≤ (i + j) / 2 := by
          rcases Nat.lt_or_ge ((i + j) / 2) i0 with q | q
          · exact absurd (z2.2 (A.lo _ hh q)) e
          · exact q
        rw [if_neg e]
        exact bs_loop n hn l t i0 A hl k i ((i + j) / 2) (by omega) (by omega) (by omega) (by omega)
    · rw [if_neg (by omega)]
      have : i = i0 := by omega
      rw [this]
theorem bs_any (n : Nat) (hn : 1100 < n) (l : List Pr) (t : Pr) (i0 : Nat) (A : At l t i0) (hl : l.length ≤ 1024) :
    ∃ b, G_slices_BinarySearchFunc_rmap_Pair_rmap_Pair_rmap_Pair n l t (fun y0 y1 => G_rmap_order n y0 y1) = some ((i0 : Int), b) := by
  unfold G_slices_BinarySearchFunc_rmap_Pair_rmap_Pair_rmap_Pair
  have h := bs_loop n (by omega) l t i0 A hl n 0 l.length (by omega) (by omega) A.le (Nat.le_refl _)
  have h : G_slices_BinarySearchFunc_rmap_Pair_rmap_Pair_rmap_Pair_L1 n l (fun y0 y1 => G_rmap_order n y0 y1) t n 0 (l.length : Int) = _ := h
  rw [h, Option.bind_some]
  simp only
  by_cases h1 : i0 < l.length
  · rw [if_pos (by omega), getI_nat, List.getElem?_eq_getElem h1, Option.bind_some, order_any n (by omega), Option.bind_some]
    exact ⟨_, rfl⟩
  · rw [if_neg (by omega)]
    exact ⟨_, rfl⟩
theorem app24 {xs ys : List Pr} (h : xs.length + ys.length ≤ 100000) : app 24 xs ys = some (xs ++ ys) := app_le h (by omega) (by omega)
theorem clone_any (n : Nat) (l : List Pr) (hl : l.length ≤ 1024) : G_slices_Clone_rmap_Pair_rmap_Pair n l = some l := by
  unfold G_slices_Clone_rmap_Pair_rmap_Pair
  rw [app24 (by simp; omega)]; rfl
theorem ins24 (l : List Pr) (i : Nat) (x : Pr) (hi : i ≤ l.length) (hl : l.length ≤ 1024) : insI 24 l (i : Int) [x] = some (l.take i ++ [x] ++ l.drop i) := by
  unfold insI
  rw [if_pos ⟨by omega, by omega, by simp; omega, by simp; omega⟩, Int.toNat_natCast]
/-! the answers -/
theorem put_bad (n : Nat) (l : List Pr) (p : Pr) (e : Int) (he : e ≠ 0) (h : G_rmap_check n l p = some e) : G_rmap_Put n l p = some ([], e) := by
  unfold G_rmap_Put
  rw [h, Option.bind_some, if_neg he]
theorem out_bad (n : Nat) (l : List Pr) (s q e : Int) (he : e ≠ 0) (h : G_rmap_check n l ⟨0, s, q⟩ = some e) : G_rmap_Out n l s q = some ([], 0, e) := by
  unfold G_rmap_Out
  rw [h, Option.bind_some, if_neg he]
theorem who_bad (n : Nat) (l : List Pr) (f e : Int) (he : e ≠ 0) (h : G_rmap_check n l ⟨f, 1, 0⟩ = some e) : G_rmap_Who n l f = some ([], e) := by
  unfold G_rmap_Who
  rw [h, Option.bind_some, if_neg he]
theorem where_bad (n : Nat) (l : List Pr) (s q e : Int) (he : e ≠ 0) (h : G_rmap_check n l ⟨0, s, q⟩ = some e) : G_rmap_Where n l s q = some (0, e) := by
  unfold G_rmap_Where
  rw [h, Option.bind_some, if_neg he]
theorem move_bad1 (n : Nat) (l : List Pr) (f to e : Int) (he : e ≠ 0) (h : G_rmap_check n l ⟨f, 1, 0⟩ = some e) : G_rmap_Move n l f to = some ([], 0, e) := by
  unfold G_rmap_Move G_rmap_Move_C1
  rw [h, Option.bind_some, if_neg he, Option.bind_some]
  simp only
  rw [if_neg he]
theorem move_bad2 (n : Nat) (l : List Pr) (f to e : Int) (he : e ≠ 0) (h : G_rmap_check n l ⟨f, 1, 0⟩ = some 0) (h' : G_rmap_check n l ⟨to, 1, 0⟩ = some e) : G_rmap_Move n l f to = some ([], 0, e) := by
  unfold G_rmap_Move G_rmap_Move_C1
  rw [h, Option.bind_some, if_pos rfl, h', Option.bind_some, Option.bind_some]
  simp only
  rw [if_neg he]
theorem put_there (n : Nat) (l : List Pr) (p : Pr) (m : Nat) (h : G_rmap_check n l p = some 0) (hf : G_rmap_find n l p.fSpace p.fPage = some (m : Int)) : G_rmap_Put n l p = some ([], 5) := by
  unfold G_rmap_Put
  rw [h, Option.bind_some, if_pos rfl, hf, Option.bind_some, if_pos (by omega)]
theorem put_ok (n : Nat) (hn : 1100 < n) (l : List Pr) (p : Pr) (i0 : Nat) (A : At l p i0) (hl : l.length ≤ 1024) (h : G_rmap_check n l p = some 0) (hf : G_rmap_find n l p.fSpace p.fPage = some (-1)) : G_rmap_Put n l p = some (l.take i0 ++ [p] ++ l.drop i0, 0) := by
  unfold G_rmap_Put
  obtain ⟨b, hb⟩ := bs_any n hn l p i0 A hl
  rw [h, Option.bind_some, if_pos rfl, hf, Option.bind_some, if_neg (by decide), hb, Option.bind_some, clone_any n l hl, Option.bind_some]
  unfold G_slices_Insert_rmap_Pair_rmap_Pair_h
  rw [ins24 l i0 p A.le hl]; rfl
theorem out_none (n : Nat) (l : List Pr) (s q : Int) (h : G_rmap_check n l ⟨0, s, q⟩ = some 0) (hf : G_rmap_find n l s q = some (-1)) : G_rmap_Out n l s q = some ([], 0, 4) := by
  unfold G_rmap_Out
  rw [h, Option.bind_some, if_pos rfl, hf, Option.bind_some, if_pos (by decide)]
theorem out_ok (n : Nat) (l : List Pr) (s q : Int) (m : Nat) (hm : m < l.length) (hl : l.length ≤ 1024) (h : G_rmap_check n l ⟨0, s, q⟩ = some 0) (hf : G_rmap_find n l s q = some (m : Int)) : G_rmap_Out n l s q = some (l.take m ++ l.drop (m + 1), l[m].fFrame, 0) := by
  unfold G_rmap_Out
  rw [h, Option.bind_some, if_pos rfl, hf, Option.bind_some, if_neg (by omega), clone_any n l hl, Option.bind_some, wi_succ (by omega), G_slices_Delete_rmap_Pair_rmap_Pair_h_sp (by omega) (by omega), Option.bind_some, getI_nat, List.getElem?_eq_getElem hm]; rfl
theorem who_ok (n : Nat) (hn : 1100 < n) (l : List Pr) (f : Int) (hl : l.length ≤ 1024) (h : G_rmap_check n l ⟨f, 1, 0⟩ = some 0) : G_rmap_Who n l f = some (l.filter (fun p => p.fFrame == f), 0) := by
  unfold G_rmap_Who
  rw [h, Option.bind_some, if_pos rfl, clone_any n l hl, Option.bind_some, G_slices_DeleteFunc_rmap_Pair_rmap_Pair_h_sp n (fun y0 => G_rmap_Who_1 n y0 f) (fun p => p.fFrame != f) l (fun y _ => rfl) (by omega) (by omega), Option.bind_some]
  congr 2
  exact List.filter_congr fun x _ => by simp [bne]
theorem where_none (n : Nat) (l : List Pr) (s q : Int) (h : G_rmap_check n l ⟨0, s, q⟩ = some 0) (hf : G_rmap_find n l s q = some (-1)) : G_rmap_Where n l s q = some (-1, 0) := by
  unfold G_rmap_Where
  rw [h, Option.bind_some, if_pos rfl, hf, Option.bind_some, if_neg (by decide)]
theorem where_ok (n : Nat) (l : List Pr) (s q : Int) (m : Nat) (hm : m < l.length) (h : G_rmap_check n l ⟨0, s, q⟩ = some 0) (hf : G_rmap_find n l s q = some (m : Int)) : G_rmap_Where n l s q = some (l[m].fFrame, 0) := by
  unfold G_rmap_Where
  rw [h, Option.bind_some, if_pos rfl, hf, Option.bind_some, if_pos (by omega), getI_nat, List.getElem?_eq_getElem hm]; rfl
/-- a pair that is moved -/
def mv (f to : Int) (p : Pr) : Pr := if p.fFrame = f then ⟨to, p.fSpace, p.fPage⟩ else p
theorem move_loop (n : Nat) (f to : Int) (l : List Pr) (hl : l.length ≤ 1024) : ∀ (k i c : Nat) (w : List Pr), l.length - i < k → i ≤ l.length → c ≤ i → w = (l.take i).map (mv f to) ++ l.drop i →
    G_rmap_Move_L2 n f to l k (c : Int) (i : Int) w = some (.x0 ((c + ((l.drop i).filter (fun p => p.fFrame == f)).length : Nat) : Int) (l.map (mv f to)))
  | 0, i, c, w, h, _, _, _ => by omega
  | k + 1, i, c, w, h, hi, hc, hw => by
    rw [G_rmap_Move_L2]
    by_cases h1 : i < l.length
    · have hwl : w.length = l.length := by rw [hw]; simp; omega
      have hwi : w[i]? = some l[i] := by
        rw [hw, List.getElem?_append_right (by simp; omega)]
        simp only [List.length_map, List.length_take, Nat.min_eq_left hi, Nat.sub_self]
        rw [List.getElem?_drop]; simp [h1]
      have hd := drop_cons (List.getElem?_eq_getElem h1)
      have ht : l.take (i + 1) = l.take i ++ [l[i]] := List.take_succ_eq_append_getElem h1
      have hset : ∀ y, w.set i y = (l.take i).map (mv f to) ++ [y] ++ l.drop (i + 1) := by
        intro y
        rw [hw, List.set_append_right _ _ (by simp; omega)]
        simp only [List.length_map, List.length_take, Nat.min_eq_left hi, Nat.sub_self]
        rw [hd]; simp only [List.set_cons_zero, List.append_assoc, List.singleton_append]
      have hin : 0 ≤ (i : Int) ∧ (i : Int).toNat < w.length := ⟨by omega, by omega⟩
      rw [if_pos (by omega), if_pos hin, Int.toNat_natCast, hwi, Option.bind_some]
      by_cases e : l[i].fFrame = f
      · have ef : (l[i].fFrame == f) = true := by simpa using e
        rw [if_pos e, if_pos (by simpa using hin.2), Option.bind_some, wi_succ (by omega), wi_succ (by omega), move_loop n f to l hl k (i + 1) (c + 1) _ (by omega) (by omega) (by omega) (by
          rw [hset, ht, List.map_append, List.map_cons, List.map_nil, mv, if_pos e])]
        rw [hd, List.filter_cons, if_pos ef, List.length_cons]
        congr 2
        omega
      · have ef : ¬ (l[i].fFrame == f) = true := by simpa using e
        rw [if_neg e, wi_succ (by omega), move_loop n f to l hl k (i + 1) c w (by omega) (by omega) (by omega) (by
          rw [hw, ht, List.map_append, List.map_cons, List.map_nil, mv, if_neg e, hd]; simp)]
        rw [hd, List.filter_cons, if_neg ef]
    · rw [if_neg (by omega)]
      have : i = l.length := by omega
      subst this
      rw [hw]; simp
end rm
end Go.Proofs.Ytdonkhioembhlaa.pv
