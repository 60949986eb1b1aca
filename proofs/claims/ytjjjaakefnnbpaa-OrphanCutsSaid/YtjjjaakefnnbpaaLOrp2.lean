/- OrphanCuts returns true for every node, size, lists and number, and leaves its arguments alone. No condition. -/
import Derived.Test.YtjjjaakefnnbpaaLOrp
import Derived.ChangeOld
namespace Go.Proofs.Ytjjjaakefnnbpaa.orphanCuts
open Go.ChangeShapes Go.WideShapes Go.ChangeAt Go.RowKit help rep pv
set_option linter.all false

theorem index_loop (n : Nat) (l : List Int) (v : Int) (hl : l.length < 1000000) : ∀ (k i : Nat), l.length - i < k → i ≤ l.length →
    ∃ o, G_slices_Index_int_int_L1 n l v k (i : Int) = some o ∧ (match o with | .x0 j => 0 ≤ j ∧ v ∈ l.drop i | .x1 => ¬ v ∈ l.drop i)
  | 0, i, h, _ => by omega
  | k + 1, i, h, hi => by
    rw [G_slices_Index_int_int_L1]
    by_cases hlt : (i : Int) < (l.length : Int)
    · obtain ⟨x, hx⟩ := get_lt hlt
      rw [if_pos hlt, getI_nat, hx, Option.bind_some, drop_cons hx]
      by_cases e : v = x
      · rw [if_pos e]
        exact ⟨_, rfl, by omega, by simp [e]⟩
      · rw [if_neg e, wi_succ (by omega)]
        obtain ⟨o, h1, h2⟩ := index_loop n l v hl k (i + 1) (by omega) (by omega)
        refine ⟨o, h1, ?_⟩
        cases o with
        | x0 j => exact ⟨h2.1, by simp [h2.2]⟩
        | x1 => simpa [e] using h2
    · rw [if_neg hlt, drop_end hlt]
      exact ⟨_, rfl, by simp⟩
theorem contains_any (n : Nat) (l : List Int) (v : Int) (hl : l.length < 1000000) (hn : l.length < n) : G_slices_Contains_int_int n l v = some (l.contains v) := by
  unfold G_slices_Contains_int_int G_slices_Index_int_int
  obtain ⟨o, h1, h2⟩ := index_loop n l v hl n 0 (by omega) (by omega)
  have h1 : G_slices_Index_int_int_L1 n l v n 0 = some o := h1
  rw [h1, Option.bind_some]
  cases o with
  | x0 j =>
    simp only [List.drop_zero] at h2
    simp [h2.1, h2.2]
  | x1 =>
    simp only [List.drop_zero] at h2
    simp [h2]
theorem equal_loop (n : Nat) (l : List Int) (hl : l.length < 1000000) : ∀ (k i : Nat), l.length - i < k → i ≤ l.length → G_slices_Equal_int_int_L1 n l l k (i : Int) = some .x1
  | 0, i, h, _ => by omega
  | k + 1, i, h, hi => by
    rw [G_slices_Equal_int_int_L1]
    by_cases hlt : (i : Int) < (l.length : Int)
    · obtain ⟨x, hx⟩ := get_lt hlt
      rw [if_pos hlt, getI_nat, hx, Option.bind_some, Option.bind_some, if_pos rfl, wi_succ (by omega)]
      exact equal_loop n l hl k (i + 1) (by omega) (by omega)
    · rw [if_neg hlt]
theorem equal_self (n : Nat) (l : List Int) (hl : l.length < 1000000) (hn : l.length < n) : G_slices_Equal_int_int n l l = some true := by
  unfold G_slices_Equal_int_int
  have := equal_loop n l hl n 0 (by omega) (by omega)
  have : G_slices_Equal_int_int_L1 n l l n 0 = some .x1 := this
  rw [if_pos rfl, this]; rfl
theorem less_any (n : Nat) (x y : Int) : G_cmp_Less_int n x y = some (decide (x < y)) := by
  unfold G_cmp_Less_int G_cmp_Less_int_C1 G_cmp_isNaN_int
  simp
/-- w is sorted up to i, but for what stands at j, which is less than all behind it -/
def sunk (w : List Int) (i j : Nat) : Prop := (∀ p q x y, p < q → q ≤ i → p ≠ j → q ≠ j → w[p]? = some x → w[q]? = some y → x ≤ y) ∧ (∀ q x y, j < q → q ≤ i → w[j]? = some x → w[q]? = some y → x ≤ y)
def sortedTo (w : List Int) (i : Nat) : Prop := ∀ p q x y, p < q → q < i → w[p]? = some x → w[q]? = some y → x ≤ y
theorem sink_any (n : Nat) (b ii : Int) : ∀ (k j : Nat) (w : List Int) (i : Nat), j < k → j ≤ i → i < w.length → w.length < 1000 → sunk w i j →
    ∃ r, G_slices_insertionSortOrdered_int_h_L1 n 0 b ii k (j : Int) w = some (.x0 r) ∧ r.Perm w ∧ sortedTo r (i + 1)
  | 0, j, w, i, h, _, _, _, _ => by omega
  | k + 1, j, w, i, h, hji, hi, hl, hs => by
    rw [G_slices_insertionSortOrdered_int_h_L1]
    cases j with
    | zero =>
      rw [if_neg (by simp)]
      refine ⟨w, rfl, List.Perm.refl _, fun p q x y hpq hq hx hy => ?_⟩
      cases p with
      | zero => exact hs.2 q x y hpq (by omega) hx hy
      | succ p => exact hs.1 (p + 1) q x y hpq (by omega) (by omega) (by omega) hx hy
    | succ j =>
      have e1 : wi .i64 (((j + 1 : Nat) : Int) - 1) = (j : Int) := by rw [wi64 (by omega) (by omega)]; omega
      have h1 : j + 1 < w.length := by omega
      have h0 : j < w.length := by omega
      rw [if_pos (by omega), if_pos ⟨by omega, by simpa using h1⟩, e1]
      simp only [Int.toNat_natCast]
      rw [List.getElem?_eq_getElem h1, Option.bind_some, if_pos ⟨by omega, h0⟩, List.getElem?_eq_getElem h0, Option.bind_some, less_any, Option.bind_some]
      by_cases hlt : w[j + 1] < w[j]
      · rw [if_pos (by simpa using hlt), if_pos ⟨by omega, h0⟩, Option.bind_some, if_pos ⟨by omega, h1⟩, Option.bind_some, if_pos ⟨by omega, h1⟩, Option.bind_some]
        have h0' : j < (w.set (j + 1) w[j]).length := by simpa using h0
        rw [if_pos ⟨by omega, h0'⟩, List.getElem?_eq_getElem h0', Option.bind_some]
        have hp : ((w.set (j + 1) w[j]).set j w[j + 1]).Perm w := List.set_set_perm h1 h0
        have hlen := hp.length_eq
        have hget : ∀ (p : Nat), ((w.set (j + 1) w[j]).set j w[j + 1])[p]? = if p = j then some w[j + 1] else if p = j + 1 then some w[j] else w[p]? := by
          intro p
          rw [List.getElem?_set, List.getElem?_set]
          by_cases a : p = j
          · subst a; simp [h0]
          · rw [if_neg (fun e => a e.symm), if_neg a]
            by_cases b : p = j + 1
            · subst b; simp [h1]
            · rw [if_neg (fun e => b e.symm), if_neg b]
        obtain ⟨r, r1, r2, r3⟩ := sink_any n b ii k j _ i (by omega) (by omega) (by rw [hlen]; exact hi) (by rw [hlen]; exact hl) (by
          refine ⟨fun p q x y hpq hq hp' hq' hx hy => ?_, fun q x y hq hqi hx hy => ?_⟩
          · rw [hget] at hx hy
            rw [if_neg hp'] at hx
            rw [if_neg hq'] at hy
            by_cases a : p = j + 1
            · rw [if_pos a] at hx
              rw [if_neg (by omega)] at hy
              cases hx
              exact hs.1 j q _ _ (by omega) hq (by omega) (by omega) (List.getElem?_eq_getElem h0) hy
            · rw [if_neg a] at hx
              by_cases c : q = j + 1
              · rw [if_pos c] at hy
                cases hy
                exact hs.1 p j _ _ (by omega) (by omega) a (by omega) hx (List.getElem?_eq_getElem h0)
              · rw [if_neg c] at hy
                exact hs.1 p q x y hpq hq a c hx hy
          · rw [hget] at hx hy
            rw [if_pos rfl] at hx
            cases hx
            rw [if_neg (by omega)] at hy
            by_cases c : q = j + 1
            · rw [if_pos c] at hy
              cases hy
              omega
            · rw [if_neg c] at hy
              exact hs.2 q _ y (by omega) hqi (List.getElem?_eq_getElem h1) hy)
        exact ⟨r, r1, r2.trans hp, r3⟩
      · rw [if_neg (by simpa using hlt)]
        refine ⟨w, rfl, List.Perm.refl _, fun p q x y hpq hq hx hy => ?_⟩
        by_cases a : p = j + 1
        · subst a; exact hs.2 q x y hpq (by omega) hx hy
        · by_cases c : q = j + 1
          · subst c
            rw [List.getElem?_eq_getElem h1] at hy
            cases hy
            by_cases d : p = j
            · subst d
              rw [List.getElem?_eq_getElem h0] at hx
              cases hx
              omega
            · have := hs.1 p j x _ (by omega) (by omega) a (by omega) hx (List.getElem?_eq_getElem h0)
              omega
          · exact hs.1 p q x y hpq (by omega) a c hx hy
theorem isort_any (n : Nat) : ∀ (k i : Nat) (w : List Int), w.length - i < k → w.length < n → w.length < 1000 → 0 < i → sortedTo w i →
    ∃ r, G_slices_insertionSortOrdered_int_h_L2 n 0 (w.length : Int) k (i : Int) w = some (.x0 r) ∧ r.Perm w ∧ sortedTo r w.length
  | 0, i, w, h, _, _, _, _ => by omega
  | k + 1, i, w, h, hn, hl, h0, hs => by
    rw [G_slices_insertionSortOrdered_int_h_L2]
    by_cases hlt : (i : Int) < (w.length : Int)
    · rw [if_pos hlt]
      obtain ⟨r, r1, r2, r3⟩ := sink_any n (w.length : Int) (i : Int) n i w i (by omega) (Nat.le_refl _) (by omega) hl
        ⟨fun p q x y hpq hq _ hq' hx hy => hs p q x y hpq (by omega) hx hy, fun q x y hq hqi _ _ => by omega⟩
      rw [r1, Option.bind_some]
      have hlen := r2.length_eq
      simp only [wi_succ (show i < 4611686018427387904 by omega)]
      rw [← hlen]
      obtain ⟨r', q1, q2, q3⟩ := isort_any n k (i + 1) r (by omega) (by omega) (by omega) (by omega) r3
      exact ⟨r', q1, q2.trans r2, q3⟩
    · rw [if_neg hlt]
      exact ⟨w, rfl, List.Perm.refl _, fun p q x y hpq hq hx hy => hs p q x y hpq (by omega) hx hy⟩
theorem getS_lt (s : ByteArray) (j : Int) (h0 : 0 ≤ j) (h1 : j.toNat < s.size) : ∃ y, getS s j = some y := by
  unfold getS
  rw [if_pos h0]
  have : s[j.toNat]? = some s[j.toNat] := by rw [getElem?_pos]
  rw [this]
  exact ⟨_, rfl⟩
theorem len_aux (s : ByteArray) (j : Int) (g : Int → Int) (h0 : 0 ≤ j) (h1 : j.toNat < s.size) : ∃ r, ((getS s j).bind fun y => some (g y)).bind (fun r => some r) = some r := by
  obtain ⟨y, hy⟩ := getS_lt s j h0 h1
  rw [hy]; exact ⟨_, rfl⟩
theorem len_any (n m : Nat) (h : m < 256) : ∃ r, G_math_bits_Len n (wi .u64 (m : Int)) = some r := by
  have e : wi .u64 (m : Int) = (m : Int) := by rw [wi, IntKind.wrap_u64]; omega
  unfold G_math_bits_Len G_math_bits_Len64
  rw [e, if_neg (by omega), if_neg (by omega), if_neg (by omega)]
  refine len_aux _ _ _ ?_ ?_
  · rw [wu8 (by omega) (by omega)]; omega
  · rw [wu8 (by omega) (by omega)]
    refine Nat.lt_of_lt_of_le (m := 256) (by simpa using h) (Nat.le_of_eq ?_)
    decide +kernel
theorem sort_any (n : Nat) (xs : List Int) (hl : xs.length ≤ 12) (hn : 14 ≤ n) : ∃ r, G_slices_Sort_int_int_h n xs = some r ∧ r.Perm xs ∧ r.Pairwise (· ≤ ·) := by
  unfold G_slices_Sort_int_int_h
  obtain ⟨l, hl'⟩ := len_any n xs.length (by omega)
  rw [hl', Option.bind_some]
  unfold G_slices_pdqsortOrdered_int_h
  obtain ⟨m, rfl⟩ : ∃ m, n = m + 1 := ⟨n - 1, by omega⟩
  obtain ⟨r, r1, r2, r3⟩ := isort_any (m + 1) (m + 1) 1 xs (by omega) (by omega) (by omega) (by omega) (fun p q x y hpq hq _ _ => by omega)
  have hi : G_slices_insertionSortOrdered_int_h (m + 1) xs 0 (xs.length : Int) = some r := by
    unfold G_slices_insertionSortOrdered_int_h
    rw [show wi .i64 ((0 : Int) + 1) = ((1 : Nat) : Int) from rfl, r1]; rfl
  have hp : G_slices_pdqsortOrdered_int_h_L1 (m + 1) (m + 1) 0 (xs.length : Int) l true true xs = some (.x0 r) := by
    rw [G_slices_pdqsortOrdered_int_h_L1, if_pos (by rw [wi64 (by omega) (by omega)]; omega), hi]; rfl
  rw [hp]
  refine ⟨r, rfl, r2, ?_⟩
  rw [List.pairwise_iff_getElem]
  intro p q hp hq hpq
  exact r3 p q _ _ hpq (by rw [← r2.length_eq]; exact hq) (List.getElem?_eq_getElem hp) (List.getElem?_eq_getElem hq)
/-- two sorted lists of the same numbers are one -/
theorem sorted_eq {a b : List Int} (hp : a.Perm b) (ha : a.Pairwise (· ≤ ·)) (hb : b.Pairwise (· ≤ ·)) : a = b := hp.eq_of_pairwise (fun _ _ _ _ h1 h2 => by omega) ha hb
theorem app8 {l : List Int} {x : Int} (h : l.length ≤ 1000) : app 8 l [x] = some (l ++ [x]) := app_some (by simp; omega) (by omega)
theorem cut1 (n : Nat) (size : Int) (r : Nat) (nd : S_inode_Node) (hr : r ≤ 8) : ∀ (k : Nat) (p g : List Int), p.length < k → p.length ≤ 8 → g.length + p.length ≤ 100 →
    G_orphan_Cut_L1 n size (r : Int) nd k p g = some (.x0 (p.take r) (g ++ ((p.drop r).reverse.filter (fun x => x != 0))))
  | 0, p, g, h, _, _ => by omega
  | k + 1, p, g, h, hp, hg => by
    rw [G_orphan_Cut_L1]
    by_cases hlt : (p.length : Int) > (r : Int)
    · have hlt' : r < p.length := by omega
      obtain ⟨q, x, rfl⟩ : ∃ q x, p = q ++ [x] := ⟨p.dropLast, p.getLast (by intro e; rw [e] at hlt'; simp at hlt'), (List.dropLast_concat_getLast _).symm⟩
      have hl : (q ++ [x]).length = q.length + 1 := by simp
      have e1 : wi .i64 (((q ++ [x]).length : Int) - 1) = (q.length : Int) := by rw [wi64 (by omega) (by omega), hl]; omega
      have e2 : (q ++ [x])[q.length]? = some x := by simp
      have e3 : sub (q ++ [x]) 0 (q.length : Int) = some q := by
        unfold sub
        rw [if_pos (by omega)]
        simp
      have hq : r ≤ q.length := by omega
      have e4 : (q ++ [x]).take r = q.take r := List.take_append_of_le_length hq
      have e5 : ((q ++ [x]).drop r).reverse.filter (fun x => x != 0) = (if x = 0 then [] else [x]) ++ (q.drop r).reverse.filter (fun x => x != 0) := by
        rw [List.drop_append_of_le_length hq, List.reverse_append]
        by_cases h0 : x = 0 <;> simp [h0]
      rw [if_pos hlt, e1, if_pos ⟨by omega, by simp⟩, Int.toNat_natCast, e2, Option.bind_some, e4, e5]
      by_cases h0 : x = 0
      · rw [if_pos h0, e3, Option.bind_some, cut1 n size r nd hr k q g (by omega) (by omega) (by omega), if_pos h0]
        simp
      · rw [if_neg h0, app8 (by omega), Option.bind_some, e3, Option.bind_some, cut1 n size r nd hr k q (g ++ [x]) (by omega) (by omega) (by simp; omega), if_neg h0]
        simp
    · rw [if_neg hlt, List.take_of_length_le (by omega), List.drop_eq_nil_of_le (by omega)]
      simp
theorem cut2 (n : Nat) (size : Int) (r : Nat) (nd : S_inode_Node) (hr : r ≤ 8) (g : List Int) : ∀ (k : Nat) (p : List Int), r - p.length < k → p.length ≤ 8 →
    G_orphan_Cut_L2 n size (r : Int) nd k p g = some (.x0 (p ++ List.replicate (r - p.length) 0) g)
  | 0, p, h, _ => by omega
  | k + 1, p, h, hp => by
    rw [G_orphan_Cut_L2]
    by_cases hlt : (p.length : Int) < (r : Int)
    · obtain ⟨m, hm⟩ : ∃ m, r - p.length = m + 1 := ⟨r - p.length - 1, by omega⟩
      rw [if_pos hlt, app8 (by omega), Option.bind_some, cut2 n size r nd hr g k (p ++ [0]) (by simp; omega) (by simp; omega), List.length_append, hm, List.append_assoc]
      have : r - (p.length + [(0 : Int)].length) = m := by simp; omega
      rw [this]; rfl
    · rw [if_neg hlt, show r - p.length = 0 by omega]; simp
/-- what the document keeps, and what goes -/
def keepR (p : List Int) (r i : Nat) : List Int := (p.take r).drop i ++ List.replicate (r - max p.length i) 0
theorem cut3 (n : Nat) (size : Int) (r : Nat) (nd : S_ringref3_Node) (hr : r ≤ 8) (hp : nd.fPoints.length ≤ 8) : ∀ (k i : Nat) (w g : List Int), 8 - i < k → i ≤ max r nd.fPoints.length → w.length + g.length ≤ i →
    ∃ w' g', G_ringref3_Cut_L3 n size (r : Int) nd k (i : Int) w g = some (.x0 w' g') ∧ w' = w ++ keepR nd.fPoints r i ∧ g' = g ++ ((nd.fPoints.drop (max r i)).filter (fun x => decide (x > 0)))
  | 0, i, w, g, h, _, _ => by omega
  | k + 1, i, w, g, h, hi, hw => by
    rw [G_ringref3_Cut_L3]
    have hmx : maxI (r : Int) (nd.fPoints.length : Int) = ((max r nd.fPoints.length : Nat) : Int) := by
      unfold maxI
      split <;> omega
    rw [hmx]
    by_cases hlt : (i : Int) < ((max r nd.fPoints.length : Nat) : Int)
    · rw [if_pos hlt]
      unfold G_ringref3_Cut_C2
      by_cases hl : (i : Int) < (nd.fPoints.length : Int)
      · obtain ⟨x, hx⟩ := get_lt hl
        rw [if_pos hl, getI_nat, hx, Option.bind_some]
        unfold G_ringref3_Cut_C1
        by_cases hir : (i : Int) < (r : Int)
        · rw [if_pos hir, app8 (by omega)]
          simp only [Option.bind_some]
          rw [wi_succ (by omega)]
          obtain ⟨w', g', q1, q2, q3⟩ := cut3 n size r nd hr hp k (i + 1) (w ++ [x]) g (by omega) (by omega) (by simp; omega)
          refine ⟨w', g', q1, ?_, ?_⟩
          · rw [q2]
            unfold keepR
            have : (nd.fPoints.take r)[i]? = some x := by rw [List.getElem?_take, if_pos (by omega), hx]
            rw [drop_cons this, show max nd.fPoints.length (i + 1) = max nd.fPoints.length i by omega]
            simp
          · rw [q3, show max r (i + 1) = max r i by omega]
        · rw [if_neg hir]
          have hd : nd.fPoints.drop (max r i) = x :: nd.fPoints.drop (max r (i + 1)) := by
            rw [show max r i = i by omega, show max r (i + 1) = i + 1 by omega]; exact drop_cons hx
          have hk : keepR nd.fPoints r i = keepR nd.fPoints r (i + 1) := by
            unfold keepR
            rw [List.drop_eq_nil_of_le (by simp; omega), List.drop_eq_nil_of_le (by simp; omega), show r - max nd.fPoints.length i = r - max nd.fPoints.length (i + 1) by omega]
          rw [hd, hk]
          by_cases h0 : x > 0
          · rw [if_pos h0, app8 (by omega)]
            simp only [Option.bind_some]
            rw [wi_succ (by omega)]
            obtain ⟨w', g', q1, q2, q3⟩ := cut3 n size r nd hr hp k (i + 1) w (g ++ [x]) (by omega) (by omega) (by simp; omega)
            exact ⟨w', g', q1, q2, by rw [q3]; simp [h0]⟩
          · rw [if_neg h0]
            simp only [Option.bind_some]
            rw [wi_succ (by omega)]
            obtain ⟨w', g', q1, q2, q3⟩ := cut3 n size r nd hr hp k (i + 1) w g (by omega) (by omega) (by omega)
            exact ⟨w', g', q1, q2, by rw [q3]; simp [h0]⟩
      · have hir : (i : Int) < (r : Int) := by omega
        rw [if_neg hl, if_pos hir, app8 (by omega)]
        simp only [Option.bind_some]
        rw [wi_succ (by omega)]
        obtain ⟨w', g', q1, q2, q3⟩ := cut3 n size r nd hr hp k (i + 1) (w ++ [0]) g (by omega) (by omega) (by simp; omega)
        refine ⟨w', g', q1, ?_, ?_⟩
        · rw [q2]
          unfold keepR
          rw [List.drop_eq_nil_of_le (by simp; omega), List.drop_eq_nil_of_le (by simp; omega), show r - max nd.fPoints.length i = (r - max nd.fPoints.length (i + 1)) + 1 by omega, List.replicate_succ]
          simp
        · rw [q3, show max r (i + 1) = max r i by omega]
    · rw [if_neg hlt]
      refine ⟨w, g, rfl, ?_, ?_⟩
      · unfold keepR
        rw [List.drop_eq_nil_of_le (by simp; omega), show r - max nd.fPoints.length i = 0 by omega]; simp
      · rw [List.drop_eq_nil_of_le (by omega)]; simp
theorem same_any (n : Nat) (hn : 200 ≤ n) (x : S_inode_Node) (h : x.fPoints.length ≤ 20) : G_ringlaw3_sameNode n x (toR x) = some true := by
  unfold G_ringlaw3_sameNode G_ringlaw3_node G_ringlaw3_sameNode_C1 toR
  simp only [Option.bind_some, if_true]
  rw [equal_self n _ (by omega) (by omega)]; rfl
def none0 : S_inode_Node := S_inode_Node.mk 0 0 0 0 0 0 0 []
theorem cut_both (n : Nat) (hn : 200 ≤ n) (x : S_inode_Node) (hr : rgt x = 0) (hk : x.fKind ≠ 0) (s : Nat) (hs : s ≤ 512) :
    ∃ (p g : List Int) (t : Int), p.length ≤ 8 ∧ g.length ≤ 8 ∧ G_orphan_Cut n x (s : Int) = some (S_inode_Node.mk x.fKind x.fMode x.fUser x.fGroup (s : Int) x.fLinks x.fUp p, g, t, 0) ∧
      G_ringref3_Cut n (toR x) (s : Int) = some (toR (S_inode_Node.mk x.fKind x.fMode x.fUser x.fGroup (s : Int) x.fLinks x.fUp p), g, t) := by
  obtain ⟨z1, z2, z3, z4, z5, _⟩ := rgt_zero hr hk
  obtain ⟨b1, b2⟩ := blk_any n s (by omega) (by omega)
  generalize hrr : (s + 63) / 64 = r at b1 b2
  have hr8 : r ≤ 8 := by omega
  have hpos : ∀ y ∈ x.fPoints, 0 ≤ y := by
    intro y hy
    have := List.all_eq_true.1 z4 y hy
    simp at this; exact this.1
  have c1 := cut1 n (s : Int) r x hr8 n x.fPoints [] (by omega) z3 (by simp; omega)
  have hG : ((x.fPoints.drop r).reverse.filter (fun y => y != 0)).length ≤ 8 := by
    exact Nat.le_trans (List.length_filter_le _ _) (by simp; omega)
  have c2 := cut2 n (s : Int) r x hr8 ([] ++ (x.fPoints.drop r).reverse.filter (fun y => y != 0)) n (x.fPoints.take r) (by omega) (by simp; omega)
  obtain ⟨w', g', c3, c4, c5⟩ := cut3 n (s : Int) r (toR x) hr8 z3 n 0 [] [] (by omega) (by omega) (by simp)
  have c3 : G_ringref3_Cut_L3 n (s : Int) (r : Int) (toR x) n 0 [] [] = _ := c3
  obtain ⟨S1, s1, s2, s3⟩ := sort_any n ([] ++ (x.fPoints.drop r).reverse.filter (fun y => y != 0)) (by simpa using Nat.le_trans hG (by omega)) (by omega)
  have hg' : g'.length ≤ 8 := by
    rw [c5, List.nil_append]
    exact Nat.le_trans (List.length_filter_le _ _) (by simp [toR]; omega)
  obtain ⟨S2, t1, t2, t3⟩ := sort_any n g' (by omega) (by omega)
  have hperm : S1.Perm S2 := by
    refine s2.trans (List.Perm.trans ?_ t2.symm)
    rw [c5, List.nil_append, List.nil_append, show max r 0 = r by omega]
    show ((x.fPoints.drop r).reverse.filter (fun y => y != 0)).Perm ((x.fPoints.drop r).filter (fun y => decide (y > 0)))
    refine ((List.reverse_perm _).filter _).trans ?_
    have : (x.fPoints.drop r).filter (fun y => y != 0) = (x.fPoints.drop r).filter (fun y => decide (y > 0)) := by
      refine List.filter_congr fun y hy => ?_
      have := hpos y (List.mem_of_mem_drop hy)
      by_cases e : y = 0
      · subst e; rfl
      · have : y > 0 := by omega
        simp [e, this]
    rw [this]
  have hS : S1 = S2 := sorted_eq hperm s3 t3
  have hpt : x.fPoints.take r ++ List.replicate (r - (x.fPoints.take r).length) 0 = w' := by
    rw [c4, List.nil_append]
    unfold keepR
    rw [List.drop_zero]
    show _ = x.fPoints.take r ++ List.replicate (r - max x.fPoints.length 0) 0
    congr 2
    simp only [List.length_take]; omega
  have hwl : w'.length = r := by
    rw [← hpt]; simp only [List.length_append, List.length_take, List.length_replicate]; omega
  have hw0 : ∀ y ∈ w', 0 ≤ y := by
    rw [← hpt]
    intro y hy
    rw [List.mem_append] at hy
    rcases hy with hy | hy
    · exact hpos y (List.mem_of_mem_take hy)
    · rw [(List.mem_replicate.1 hy).2]; omega
  have hS1 : S1.length ≤ 8 := by rw [s2.length_eq]; simpa using hG
  have hrem : remI (s : Int) 64 = ((s % 64 : Nat) : Int) := by rw [rem_nn (by omega)]; omega
  have hcl : G_slices_Clone_int_int n x.fPoints = some x.fPoints := by
    unfold G_slices_Clone_int_int
    exact app_arg (by omega) (by omega)
  have hne : ∃ b : Bool, G_orphan_Cut_C3 n (s : Int) (r : Int) x w' S1 = some (.x0 b w' S1) ∧ G_ringref3_Cut_C4 n (s : Int) (r : Int) (toR x) w' S1 = some (.x0 b w' S1) := by
    have hsz : (toR x).fSize = x.fSize := rfl
    by_cases h1 : (s : Int) < x.fSize
    · by_cases h2 : ((s % 64 : Nat) : Int) = 0
      · refine ⟨false, ?_, ?_⟩
        · unfold G_orphan_Cut_C3; rw [if_pos h1, hrem, if_pos h2]
        · unfold G_ringref3_Cut_C4; rw [hsz, if_pos h1, hrem, if_neg (by omega)]
      · have e : wi .i64 ((r : Int) - 1) = ((r - 1 : Nat) : Int) := by rw [wi64 (by omega) (by omega)]; omega
        have hlt : r - 1 < w'.length := by omega
        have hy := hw0 _ (List.getElem_mem hlt)
        have hq : 0 ≤ (((r - 1 : Nat) : Int)) ∧ ((((r - 1 : Nat) : Int))).toNat < w'.length := ⟨by omega, by omega⟩
        refine ⟨w'[r - 1] != 0, ?_, ?_⟩
        · unfold G_orphan_Cut_C3
          rw [if_pos h1, hrem, if_neg h2, e, if_pos hq, Int.toNat_natCast, List.getElem?_eq_getElem hlt]; rfl
        · unfold G_ringref3_Cut_C4
          rw [hsz, if_pos h1, hrem, if_pos (by omega), e, if_pos hq, Int.toNat_natCast, List.getElem?_eq_getElem hlt, Option.bind_some]
          congr 2
          by_cases q : w'[r - 1] = 0
          · simp [q]
          · have : w'[r - 1] > 0 := by omega
            simp [q, this]
    · refine ⟨false, ?_, ?_⟩
      · unfold G_orphan_Cut_C3; rw [if_neg h1]
      · unfold G_ringref3_Cut_C4; rw [hsz, if_neg h1]
  obtain ⟨b, d1, d2⟩ := hne
  refine ⟨w', S1, if b = true then ((s % 64 : Nat) : Int) else 0, by omega, hS1, ?_, ?_⟩
  · unfold G_orphan_Cut
    rw [right_any n (by omega), Option.bind_some, if_pos hr, if_neg hk, if_neg (by omega), if_neg (by omega), b2, Option.bind_some, hcl, Option.bind_some, c1, Option.bind_some]
    simp only []
    rw [c2, Option.bind_some]
    simp only []
    rw [s1, Option.bind_some, hpt, d1, Option.bind_some]
    simp only []
    rw [hrem]
    cases b <;> rfl
  · unfold G_ringref3_Cut G_sort_Ints_h
    rw [b1, Option.bind_some, c3, Option.bind_some]
    simp only []
    rw [t1, Option.bind_some, Option.bind_some, ← hS, d2, Option.bind_some]
    simp only []
    rw [hrem]
    cases b <;> rfl
theorem lost_both (n : Nat) (hn : 200 ≤ n) (l : List S_inode_Node) (held : List Int) (es : List S_api_Entry) (many : Int) (hl : l.length ≤ 60) (hh : held.length ≤ 60) : ∀ (k i : Nat) (w : List Int), l.length - i < k → i ≤ l.length → w.length ≤ i →
    ∃ r : List Int, r.length ≤ 60 ∧ G_orphan_Lost_L2 n held l k (i : Int) w = some (.x0 r) ∧ G_ringlaw3_OrphanCuts_L7 n l held es many k (i : Int) w = some (.x0 r)
  | 0, i, w, h, _, _ => by omega
  | k + 1, i, w, h, hi, hw => by
    rw [G_orphan_Lost_L2, G_ringlaw3_OrphanCuts_L7]
    by_cases hlt : (i : Int) < (l.length : Int)
    · obtain ⟨x, hx⟩ := get_lt hlt
      rw [if_pos hlt, if_pos hlt, getI_nat, hx, Option.bind_some, Option.bind_some]
      have hc : ∃ b : Bool, G_orphan_Lost_C1 n held (i : Int) l w x = some (.x0 b w) ∧ G_ringlaw3_OrphanCuts_C6 n l held es many (i : Int) w x = some (.x0 b w) := by
        unfold G_orphan_Lost_C1 G_ringlaw3_OrphanCuts_C6
        rw [contains_any n held _ (by omega) (by omega)]
        by_cases a1 : x.fKind = 0
        · rw [if_pos a1, if_pos a1]; exact ⟨_, rfl, rfl⟩
        rw [if_neg a1, if_neg a1]
        by_cases a2 : x.fLinks = 0
        · rw [if_pos a2, if_pos a2]; exact ⟨_, rfl, rfl⟩
        · rw [if_neg a2, if_neg a2]; exact ⟨_, rfl, rfl⟩
      obtain ⟨b, h1, h2⟩ := hc
      rw [h1, h2, Option.bind_some, Option.bind_some]
      simp only []
      cases b with
      | true =>
        rw [if_pos rfl, if_pos rfl, app8 (by omega), Option.bind_some, Option.bind_some, wi_succ (by omega)]
        exact lost_both n hn l held es many hl hh k (i + 1) _ (by omega) (by omega) (by simp; omega)
      | false =>
        rw [if_neg (by decide), if_neg (by decide), wi_succ (by omega)]
        exact lost_both n hn l held es many hl hh k (i + 1) _ (by omega) (by omega) (by omega)
    · rw [if_neg hlt, if_neg hlt]; exact ⟨w, by omega, rfl, rfl⟩
theorem names_both (n : Nat) (l : List S_inode_Node) (held z : List Int) (es : List S_api_Entry) (many : Int) (hl : es.length ≤ 200) : ∀ (k i : Nat) (w : List Int), es.length - i < k → i ≤ es.length → w.length ≤ 32 →
    ∃ r : List Int, r.length ≤ 32 ∧ G_orphan_Names_L2 n es k (i : Int) w = some (.x0 r) ∧ G_ringlaw3_OrphanCuts_L9 n l held es many k (i : Int) z w = some (.x0 z r)
  | 0, i, w, h, _, _ => by omega
  | k + 1, i, w, h, hi, hw => by
    rw [G_orphan_Names_L2, G_ringlaw3_OrphanCuts_L9]
    by_cases hlt : (i : Int) < (es.length : Int)
    · obtain ⟨x, hx⟩ := get_lt hlt
      rw [if_pos hlt, if_pos hlt]
      have hc : ∃ w' : List Int, w'.length ≤ 32 ∧ G_orphan_Names_C1 n es (i : Int) w = some (.x0 w') ∧ G_ringlaw3_OrphanCuts_C8 n l held es many (i : Int) z w = some (.x0 z w') := by
        unfold G_orphan_Names_C1 G_ringlaw3_OrphanCuts_C8
        rw [getI_nat, hx, Option.bind_some, Option.bind_some]
        by_cases a1 : x.fIno ≥ 1
        · rw [if_pos a1, if_pos (show x.fIno > 0 by omega)]
          by_cases a2 : x.fIno ≤ (w.length : Int)
          · have e : wi .i64 (x.fIno - 1) = x.fIno - 1 := wi64 (by omega) (by omega)
            have hq : (x.fIno - 1).toNat < w.length := by omega
            have hq' : 0 ≤ x.fIno - 1 ∧ (x.fIno - 1).toNat < w.length := ⟨by omega, hq⟩
            simp only [if_pos a2, e, if_pos hq', List.getElem?_eq_getElem hq, Option.bind_some]
            exact ⟨_, by simpa using hw, rfl, rfl⟩
          · simp only [if_neg a2]; exact ⟨w, hw, rfl, rfl⟩
        · rw [if_neg a1, if_neg (show ¬ x.fIno > 0 by omega)]; exact ⟨w, hw, rfl, rfl⟩
      obtain ⟨w', hw', h1, h2⟩ := hc
      rw [h1, h2, Option.bind_some, Option.bind_some]
      simp only []
      rw [wi_succ (by omega)]
      exact names_both n l held z es many hl k (i + 1) w' (by omega) (by omega) hw'
    · rw [if_neg hlt, if_neg hlt]; exact ⟨w, hw, rfl, rfl⟩
theorem tail_any (n : Nat) (hn : 300 ≤ n) (l : List S_inode_Node) (held : List Int) (es : List S_api_Entry) (many : Int) (hl : l.length ≤ 60) (hh : held.length ≤ 60) (he : es.length ≤ 200) :
    ((G_ringlaw3_OrphanCuts_L7 n l held es many n 0 ([] : List Int)).bind fun v_o474 => match v_o474 with
          | .x0 v_z475 =>
            (mkL 8 0 (maxI 0 (minI many 32))).bind fun (v_m476 : (List Int)) =>
            (G_ringlaw3_OrphanCuts_L9 n l held es many n 0 v_z475 v_m476).bind fun v_o501 => match v_o501 with
            | .x0 v_z502 v_z503 =>
              (G_orphan_Lost n l held).bind fun (v_r566 : ((List Int))) =>
              (G_slices_Equal_int_int n v_r566 v_z502).bind fun (v_r567 : (Bool)) =>
              if v_r567 = true then
               (G_orphan_Names n es many).bind fun (v_r568 : ((List Int))) =>
               (G_slices_Equal_int_int n v_r568 v_z503).bind fun (v_r569 : (Bool)) =>
               some v_r569
              else
               some false) = some true := by
  obtain ⟨r, hr, h1, h2⟩ := lost_both n (by omega) l held es many hl hh n 0 [] (by omega) (by omega) (by simp)
  have h1 : G_orphan_Lost_L2 n held l n 0 [] = _ := h1
  have h2 : G_ringlaw3_OrphanCuts_L7 n l held es many n 0 [] = _ := h2
  obtain ⟨m, hm, hm32⟩ : ∃ m : List Int, mkL 8 0 (maxI 0 (minI many 32)) = some m ∧ m.length ≤ 32 := by
    have hb : 0 ≤ maxI 0 (minI many 32) ∧ maxI 0 (minI many 32) ≤ 32 := by
      unfold maxI minI
      split <;> split at * <;> omega
    unfold mkL
    rw [if_pos ⟨hb.1, by unfold maxLen; omega, by omega⟩]
    exact ⟨_, rfl, by simp; omega⟩
  obtain ⟨q, hq, g1, g2⟩ := names_both n l held r es many he n 0 m (by omega) (by omega) hm32
  have g1 : G_orphan_Names_L2 n es n 0 m = _ := g1
  have g2 : G_ringlaw3_OrphanCuts_L9 n l held es many n 0 r m = _ := g2
  rw [h2, Option.bind_some]
  simp only []
  rw [hm, Option.bind_some, g2, Option.bind_some]
  simp only []
  unfold G_orphan_Lost G_orphan_Names
  rw [h1]
  simp only [Option.bind_some]
  rw [equal_self n r (by omega) (by omega), Option.bind_some, if_pos rfl, hm, Option.bind_some, g1]
  simp only [Option.bind_some]
  rw [equal_self n q (by omega) (by omega)]
  rfl
theorem law (x : S_inode_Node) (size : Int) (l : List S_inode_Node) (held : List Int) (es : List S_api_Entry) (many : Int) (ok : okS_inode_Node x) : G_ringlaw3_OrphanCuts 300 x size l held es many = some true := by
  generalize hn' : (300 : Nat) = n
  have hn : 300 ≤ n := by omega
  clear hn'
  unfold G_ringlaw3_OrphanCuts G_ringlaw3_OrphanCuts_C1
  by_cases a1 : (x.fPoints.length : Int) > 30
  · simp only [if_pos a1, Option.bind_some, if_true]
  by_cases a2 : (l.length : Int) > 60
  · simp only [if_neg a1, if_pos a2, Option.bind_some, if_true]
  by_cases a3 : (held.length : Int) > 60
  · simp only [if_neg a1, if_neg a2, if_pos a3, Option.bind_some, if_true]
  by_cases a4 : (es.length : Int) > 200
  · simp only [if_neg a1, if_neg a2, if_neg a3, decide_eq_true a4, Option.bind_some, if_true]
  simp only [if_neg a1, if_neg a2, if_neg a3, decide_eq_false a4, Option.bind_some, Bool.false_eq_true, if_false]
  have hnode : G_ringlaw3_node n x = some (toR x) := rfl
  have ht := tail_any n hn l held es many (by omega) (by omega) (by omega)
  rw [hnode, Option.bind_some, rightR_any n (by omega) x ok, Option.bind_some]
  have s0 : G_ringlaw3_sameNode n none0 (S_ringref3_Node.mk 0 0 0 0 0 0 0 ([] : (List Int))) = some true := same_any n (by omega) none0 (by simp [none0])
  have bad : ∀ e : Int, e ≠ 0 → G_orphan_Cut n x size = some (none0, [], 0, e) → G_ringlaw3_OrphanCuts_C2 n size l held es many (rgt x) x = some (.x0 e) → ((G_ringlaw3_OrphanCuts_C2 n size l held es many (rgt x) x).bind fun v_o77 => match v_o77 with
     | .x0 v_z78 =>
       (G_orphan_Cut n x size).bind fun (v_r294 : (S_inode_Node × (List Int) × Int × Int)) =>
       if v_r294.2.2.2 = v_z78 then
        (G_ringlaw3_OrphanCuts_C5 n size l held es many v_r294 v_z78 x).bind fun v_o430 => match v_o430 with
        | .x0 v_z431 =>
          some v_z431
        | .x1  =>
          (G_ringlaw3_OrphanCuts_L7 n l held es many n 0 ([] : List Int)).bind fun v_o474 => match v_o474 with
          | .x0 v_z475 =>
            (mkL 8 0 (maxI 0 (minI many 32))).bind fun (v_m476 : (List Int)) =>
            (G_ringlaw3_OrphanCuts_L9 n l held es many n 0 v_z475 v_m476).bind fun v_o501 => match v_o501 with
            | .x0 v_z502 v_z503 =>
              (G_orphan_Lost n l held).bind fun (v_r566 : ((List Int))) =>
              (G_slices_Equal_int_int n v_r566 v_z502).bind fun (v_r567 : (Bool)) =>
              if v_r567 = true then
               (G_orphan_Names n es many).bind fun (v_r568 : ((List Int))) =>
               (G_slices_Equal_int_int n v_r568 v_z503).bind fun (v_r569 : (Bool)) =>
               some v_r569
              else
               some false
       else
        some false) = some true := by
    intro e he hc h2
    rw [h2, Option.bind_some]
    simp only []
    rw [hc, Option.bind_some, if_pos rfl]
    have c5 : G_ringlaw3_OrphanCuts_C5 n size l held es many (none0, [], 0, e) e x = some .x1 := by
      unfold G_ringlaw3_OrphanCuts_C5 G_ringlaw3_OrphanCuts_C3
      rw [if_neg he, s0]
      rfl
    rw [c5, Option.bind_some]
    exact ht
  by_cases hr : rgt x = 0
  · by_cases hk : x.fKind = 0
    · refine bad 4 (by decide) ?_ ?_
      · unfold G_orphan_Cut
        rw [right_any n (by omega), Option.bind_some, if_pos hr, if_pos hk]; rfl
      · unfold G_ringlaw3_OrphanCuts_C2
        rw [if_pos hr, if_pos hk]
    by_cases h1 : size < 0
    · refine bad 1 (by decide) ?_ ?_
      · unfold G_orphan_Cut
        rw [right_any n (by omega), Option.bind_some, if_pos hr, if_neg hk, if_pos h1]; rfl
      · unfold G_ringlaw3_OrphanCuts_C2
        rw [if_pos hr, if_neg hk, if_pos h1]
    by_cases h2 : size > 512
    · refine bad 2 (by decide) ?_ ?_
      · unfold G_orphan_Cut
        rw [right_any n (by omega), Option.bind_some, if_pos hr, if_neg hk, if_neg h1, if_pos h2]; rfl
      · unfold G_ringlaw3_OrphanCuts_C2
        rw [if_pos hr, if_neg hk, if_neg h1, if_pos h2]
    obtain ⟨s, rfl⟩ := Int.eq_ofNat_of_zero_le (show 0 ≤ size by omega)
    obtain ⟨p, g, t, p8, g8, hc, hc'⟩ := cut_both n (by omega) x hr hk s (by omega)
    have c2 : G_ringlaw3_OrphanCuts_C2 n (s : Int) l held es many (rgt x) x = some (.x0 0) := by
      unfold G_ringlaw3_OrphanCuts_C2
      rw [if_pos hr, if_neg hk, if_neg h1, if_neg h2, hr]
    rw [c2, Option.bind_some]
    simp only []
    rw [hc, Option.bind_some, if_pos rfl]
    have c5 : G_ringlaw3_OrphanCuts_C5 n (s : Int) l held es many (S_inode_Node.mk x.fKind x.fMode x.fUser x.fGroup (s : Int) x.fLinks x.fUp p, g, t, 0) 0 x = some .x1 := by
      unfold G_ringlaw3_OrphanCuts_C5 G_ringlaw3_OrphanCuts_C4
      rw [if_pos rfl, hnode, Option.bind_some, hc', Option.bind_some]
      simp only []
      rw [same_any n (by omega) _ (by simpa using Nat.le_trans p8 (by omega)), Option.bind_some, if_pos rfl, equal_self n g (by omega) (by omega)]
      simp
    rw [c5, Option.bind_some]
    exact ht
  · refine bad (rgt x) hr ?_ ?_
    · unfold G_orphan_Cut
      rw [right_any n (by omega), Option.bind_some, if_neg hr]; rfl
    · unfold G_ringlaw3_OrphanCuts_C2
      rw [if_neg hr]
end Go.Proofs.Ytjjjaakefnnbpaa.orphanCuts
