/- LabelRuns returns true for all subjects, objects, accesses and numbers, and leaves its arguments alone. No condition. -/
import Derived.Test.YtjjjaakefnnbpaaGuLabelRuns
import Derived.Test.YtjjjaakefnnbpaaSpLab
import Derived.ChangeOld
namespace Go.Proofs.Ytjjjaakefnnbpaa.labelRuns
open Go.ChangeShapes Go.WideShapes Go.ChangeAt Go.RowKit help rep pv
set_option linter.all false

theorem index_loop (n : Nat) (l : List Int) (v : Int) (hl : l.length < 1000000) : ∀ (k i : Nat), l.length - i < k → i ≤ l.length →
    ∃ o, G_slices_Index_int_int_L1 n l v k (i : Int) = some o ∧ (match o with | .x0 j => 0 ≤ j ∧ v ∈ l.drop i | .x1 => ¬ v ∈ l.drop i)
  | 0, i, h, _ => by omega
  | k + 1, i, h, hi => by
    rw [G_slices_Index_int_int_L1]
    by_cases hlt : (i : Int) < (l.length : Int)
    · obtain ⟨x, hx⟩ := get_lt hlt
      rw [if_pos hlt, getI_nat, hx, Option.bind_some, drop_cons hx]
      by_cases e : v = x
      · rw [if_pos e]
        exact ⟨_, rfl, by omega, by simp [e]⟩
      · rw [if_neg e, wi_succ (by omega)]
        obtain ⟨o, h1, h2⟩ := index_loop n l v hl k (i + 1) (by omega) (by omega)
        refine ⟨o, h1, ?_⟩
        cases o with
        | x0 j => exact ⟨h2.1, by simp [h2.2]⟩
        | x1 => simpa [e] using h2
    · rw [if_neg hlt, drop_end hlt]
      exact ⟨_, rfl, by simp⟩
theorem contains_any (n : Nat) (l : List Int) (v : Int) (hl : l.length < 1000000) (hn : l.length < n) : G_slices_Contains_int_int n l v = some (l.contains v) := by
  unfold G_slices_Contains_int_int G_slices_Index_int_int
  obtain ⟨o, h1, h2⟩ := index_loop n l v hl n 0 (by omega) (by omega)
  have h1 : G_slices_Index_int_int_L1 n l v n 0 = some o := h1
  rw [h1, Option.bind_some]
  cases o with
  | x0 j =>
    simp only [List.drop_zero] at h2
    simp [h2.1, h2.2]
  | x1 =>
    simp only [List.drop_zero] at h2
    simp [h2]
theorem less_any (n : Nat) (x y : Int) : G_cmp_Less_int n x y = some (decide (x < y)) := by
  unfold G_cmp_Less_int G_cmp_Less_int_C1 G_cmp_isNaN_int
  simp
/-- w is sorted up to i, but for what stands at j, which is less than all behind it -/
def sunk (w : List Int) (i j : Nat) : Prop := (∀ p q x y, p < q → q ≤ i → p ≠ j → q ≠ j → w[p]? = some x → w[q]? = some y → x ≤ y) ∧ (∀ q x y, j < q → q ≤ i → w[j]? = some x → w[q]? = some y → x ≤ y)
def sortedTo (w : List Int) (i : Nat) : Prop := ∀ p q x y, p < q → q < i → w[p]? = some x → w[q]? = some y → x ≤ y
theorem sink_any (n : Nat) (b ii : Int) : ∀ (k j : Nat) (w : List Int) (i : Nat), j < k → j ≤ i → i < w.length → w.length < 1000 → sunk w i j →
    ∃ r, G_slices_insertionSortOrdered_int_h_L1 n 0 b ii k (j : Int) w = some (.x0 r) ∧ r.Perm w ∧ sortedTo r (i + 1)
  | 0, j, w, i, h, _, _, _, _ => by omega
  | k + 1, j, w, i, h, hji, hi, hl, hs => by
    rw [G_slices_insertionSortOrdered_int_h_L1]
    cases j with
    | zero =>
      rw [if_neg (by simp)]
      refine ⟨w, rfl, List.Perm.refl _, fun p q x y hpq hq hx hy => ?_⟩
      cases p with
      | zero => exact hs.2 q x y hpq (by omega) hx hy
      | succ p => exact hs.1 (p + 1) q x y hpq (by omega) (by omega) (by omega) hx hy
    | succ j =>
      have e1 : wi .i64 (((j + 1 : Nat) : Int) - 1) = (j : Int) := by rw [wi64 (by omega) (by omega)]; omega
      have h1 : j + 1 < w.length := by omega
      have h0 : j < w.length := by omega
      rw [if_pos (by omega), if_pos ⟨by omega, by simpa using h1⟩, e1]
      simp only [Int.toNat_natCast]
      rw [List.getElem?_eq_getElem h1, Option.bind_some, if_pos ⟨by omega, h0⟩, List.getElem?_eq_getElem h0, Option.bind_some, less_any, Option.bind_some]
      by_cases hlt : w[j + 1] < w[j]
      · rw [if_pos (by simpa using hlt), if_pos ⟨by omega, h0⟩, Option.bind_some, if_pos ⟨by omega, h1⟩, Option.bind_some, if_pos ⟨by omega, h1⟩, Option.bind_some]
        have h0' : j < (w.set (j + 1) w[j]).length := by simpa using h0
        rw [if_pos ⟨by omega, h0'⟩, List.getElem?_eq_getElem h0', Option.bind_some]
        have hp : ((w.set (j + 1) w[j]).set j w[j + 1]).Perm w := List.set_set_perm h1 h0
        have hlen := hp.length_eq
        have hget : ∀ (p : Nat), ((w.set (j + 1) w[j]).set j w[j + 1])[p]? = if p = j then some w[j + 1] else if p = j + 1 then some w[j] else w[p]? := by
          intro p
          rw [List.getElem?_set, List.getElem?_set]
          by_cases a : p = j
          · subst a; simp [h0]
          · rw [if_neg (fun e => a e.symm), if_neg a]
            by_cases b : p = j + 1
            · subst b; simp [h1]
            · rw [if_neg (fun e => b e.symm), if_neg b]
        obtain ⟨r, r1, r2, r3⟩ := sink_any n b ii k j _ i (by omega) (by omega) (by rw [hlen]; exact hi) (by rw [hlen]; exact hl) (by
          refine ⟨fun p q x y hpq hq hp' hq' hx hy => ?_, fun q x y hq hqi hx hy => ?_⟩
          · rw [hget] at hx hy
            rw [if_neg hp'] at hx
            rw [if_neg hq'] at hy
            by_cases a : p = j + 1
            · rw [if_pos a] at hx
              rw [if_neg (by omega)] at hy
              cases hx
              exact hs.1 j q _ _ (by omega) hq (by omega) (by omega) (List.getElem?_eq_getElem h0) hy
            · rw [if_neg a] at hx
              by_cases c : q = j + 1
              · rw [if_pos c] at hy
                cases hy
                exact hs.1 p j _ _ (by omega) (by omega) a (by omega) hx (List.getElem?_eq_getElem h0)
              · rw [if_neg c] at hy
                exact hs.1 p q x y hpq hq a c hx hy
          · rw [hget] at hx hy
            rw [if_pos rfl] at hx
            cases hx
            rw [if_neg (by omega)] at hy
            by_cases c : q = j + 1
            · rw [if_pos c] at hy
              cases hy
              omega
            · rw [if_neg c] at hy
              exact hs.2 q _ y (by omega) hqi (List.getElem?_eq_getElem h1) hy)
        exact ⟨r, r1, r2.trans hp, r3⟩
      · rw [if_neg (by simpa using hlt)]
        refine ⟨w, rfl, List.Perm.refl _, fun p q x y hpq hq hx hy => ?_⟩
        by_cases a : p = j + 1
        · subst a; exact hs.2 q x y hpq (by omega) hx hy
        · by_cases c : q = j + 1
          · subst c
            rw [List.getElem?_eq_getElem h1] at hy
            cases hy
            by_cases d : p = j
            · subst d
              rw [List.getElem?_eq_getElem h0] at hx
              cases hx
              omega
            · have := hs.1 p j x _ (by omega) (by omega) a (by omega) hx (List.getElem?_eq_getElem h0)
              omega
          · exact hs.1 p q x y hpq (by omega) a c hx hy
theorem isort_any (n : Nat) : ∀ (k i : Nat) (w : List Int), w.length - i < k → w.length < n → w.length < 1000 → 0 < i → sortedTo w i →
    ∃ r, G_slices_insertionSortOrdered_int_h_L2 n 0 (w.length : Int) k (i : Int) w = some (.x0 r) ∧ r.Perm w ∧ sortedTo r w.length
  | 0, i, w, h, _, _, _, _ => by omega
  | k + 1, i, w, h, hn, hl, h0, hs => by
    rw [G_slices_insertionSortOrdered_int_h_L2]
    by_cases hlt : (i : Int) < (w.length : Int)
    · rw [if_pos hlt]
      obtain ⟨r, r1, r2, r3⟩ := sink_any n (w.length : Int) (i : Int) n i w i (by omega) (Nat.le_refl _) (by omega) hl
        ⟨fun p q x y hpq hq _ hq' hx hy => hs p q x y hpq (by omega) hx hy, fun q x y hq hqi _ _ => by omega⟩
      rw [r1, Option.bind_some]
      have hlen := r2.length_eq
      simp only [wi_succ (show i < 4611686018427387904 by omega)]
      rw [← hlen]
      obtain ⟨r', q1, q2, q3⟩ := isort_any n k (i + 1) r (by omega) (by omega) (by omega) (by omega) r3
      exact ⟨r', q1, q2.trans r2, q3⟩
    · rw [if_neg hlt]
      exact ⟨w, rfl, List.Perm.refl _, fun p q x y hpq hq hx hy => hs p q x y hpq (by omega) hx hy⟩
theorem getS_lt (s : ByteArray) (j : Int) (h0 : 0 ≤ j) (h1 : j.toNat < s.size) : ∃ y, getS s j = some y := by
  unfold getS
  rw [if_pos h0]
  have : s[j.toNat]? = some s[j.toNat] := by rw [getElem?_pos]
  rw [this]
  exact ⟨_, rfl⟩
theorem len_aux (s : ByteArray) (j : Int) (g : Int → Int) (h0 : 0 ≤ j) (h1 : j.toNat < s.size) : ∃ r, ((getS s j).bind fun y => some (g y)).bind (fun r => some r) = some r := by
  obtain ⟨y, hy⟩ := getS_lt s j h0 h1
  rw [hy]; exact ⟨_, rfl⟩
theorem len_any (n m : Nat) (h : m < 256) : ∃ r, G_math_bits_Len n (wi .u64 (m : Int)) = some r := by
  have e : wi .u64 (m : Int) = (m : Int) := by rw [wi, IntKind.wrap_u64]; omega
  unfold G_math_bits_Len G_math_bits_Len64
  rw [e, if_neg (by omega), if_neg (by omega), if_neg (by omega)]
  refine len_aux _ _ _ ?_ ?_
  · rw [wu8 (by omega) (by omega)]; omega
  · rw [wu8 (by omega) (by omega)]
    refine Nat.lt_of_lt_of_le (m := 256) (by simpa using h) (Nat.le_of_eq ?_)
    decide +kernel
theorem sort_any (n : Nat) (xs : List Int) (hl : xs.length ≤ 12) (hn : 14 ≤ n) : ∃ r, G_slices_Sort_int_int_h n xs = some r ∧ r.Perm xs ∧ r.Pairwise (· ≤ ·) := by
  unfold G_slices_Sort_int_int_h
  obtain ⟨l, hl'⟩ := len_any n xs.length (by omega)
  rw [hl', Option.bind_some]
  unfold G_slices_pdqsortOrdered_int_h
  obtain ⟨m, rfl⟩ : ∃ m, n = m + 1 := ⟨n - 1, by omega⟩
  obtain ⟨r, r1, r2, r3⟩ := isort_any (m + 1) (m + 1) 1 xs (by omega) (by omega) (by omega) (by omega) (fun p q x y hpq hq _ _ => by omega)
  have hi : G_slices_insertionSortOrdered_int_h (m + 1) xs 0 (xs.length : Int) = some r := by
    unfold G_slices_insertionSortOrdered_int_h
    rw [show wi .i64 ((0 : Int) + 1) = ((1 : Nat) : Int) from rfl, r1]; rfl
  have hp : G_slices_pdqsortOrdered_int_h_L1 (m + 1) (m + 1) 0 (xs.length : Int) l true true xs = some (.x0 r) := by
    rw [G_slices_pdqsortOrdered_int_h_L1, if_pos (by rw [wi64 (by omega) (by omega)]; omega), hi]; rfl
  rw [hp]
  refine ⟨r, rfl, r2, ?_⟩
  rw [List.pairwise_iff_getElem]
  intro p q hp hq hpq
  exact r3 p q _ _ hpq (by rw [← r2.length_eq]; exact hq) (List.getElem?_eq_getElem hp) (List.getElem?_eq_getElem hq)
/-- two sorted lists of the same numbers are one -/
theorem sorted_eq {a b : List Int} (hp : a.Perm b) (ha : a.Pairwise (· ≤ ·)) (hb : b.Pairwise (· ≤ ·)) : a = b := hp.eq_of_pairwise (fun _ _ _ _ h1 h2 => by omega) ha hb
theorem concat2 (n : Nat) (a b : List S_label_Label) (h : a.length + b.length ≤ 100) (hn : 100 < n) : G_slices_Concat_label_Label_label_Label_h n [a, b] = some (a ++ b) := by
  obtain ⟨m, rfl⟩ : ∃ m, n = m + 3 := ⟨n - 3, by omega⟩
  unfold G_slices_Concat_label_Label_label_Label_h
  have e0 : ∀ (x y : List S_label_Label), getI [x, y] 0 = some x := fun x y => rfl
  have e1 : ∀ (x y : List S_label_Label), getI [x, y] 1 = some y := fun x y => rfl
  have w1 : wi .i64 ((0 : Int) + 1) = 1 := wi64 (by omega) (by omega)
  have w2 : wi .i64 ((1 : Int) + 1) = 2 := wi64 (by omega) (by omega)
  have wa : wi .i64 (0 + (a.length : Int)) = a.length := by rw [wi64 (by omega) (by omega)]; omega
  have wb : wi .i64 ((a.length : Int) + (b.length : Int)) = ((a.length + b.length : Nat) : Int) := by rw [wi64 (by omega) (by omega)]; omega
  have l1 : G_slices_Concat_label_Label_label_Label_h_L1 (m + 3) [a, b] (m + 3) 0 0 = some (.x0 ((a.length + b.length : Nat) : Int)) := by
    rw [G_slices_Concat_label_Label_label_Label_h_L1, if_pos (by simp), e0, Option.bind_some, wa, if_neg (by omega), w1,
      G_slices_Concat_label_Label_label_Label_h_L1, if_pos (by simp), e1, Option.bind_some, wb, if_neg (by omega), w2,
      G_slices_Concat_label_Label_label_Label_h_L1, if_neg (by simp)]
  rw [l1, Option.bind_some]
  have hg : G_slices_Grow_label_Label_label_Label_h (m + 3) ((a.length + b.length : Nat) : Int) = some [] := by
    unfold G_slices_Grow_label_Label_label_Label_h
    have w0 : wi .i64 ((0 : Int) - 0) = 0 := wi64 (by omega) (by omega)
    have w3 : wi .i64 (((a.length + b.length : Nat) : Int) - 0) = ((a.length + b.length : Nat) : Int) := by rw [wi64 (by omega) (by omega)]; omega
    rw [if_neg (by omega), w0, w3]
    by_cases hz : ((a.length + b.length : Nat) : Int) > 0
    · rw [if_pos hz]
      have : appZ 16 (S_label_Label.mk 0 0) ((a.length + b.length : Nat) : Int) = some (List.replicate (a.length + b.length) (S_label_Label.mk 0 0)) := by
        unfold appZ
        rw [if_pos (by simp only [Int.toNat_natCast, maxLen]; omega), Int.toNat_natCast]
      rw [this, Option.bind_some]
      have : sub (List.replicate (a.length + b.length) (S_label_Label.mk 0 0)) 0 0 = some [] := by
        unfold sub
        rw [if_pos (by simp; omega)]; rfl
      rw [this]; rfl
    · rw [if_neg hz]
  simp only
  rw [hg, Option.bind_some]
  have l2 : G_slices_Concat_label_Label_label_Label_h_L2 (m + 3) [a, b] (m + 3) 0 [] = some (.x0 (a ++ b)) := by
    rw [G_slices_Concat_label_Label_label_Label_h_L2, if_pos (by simp), e0, Option.bind_some, app_le (m := 100) (by simp; omega) (by omega) (by omega), Option.bind_some, w1,
      G_slices_Concat_label_Label_label_Label_h_L2, if_pos (by simp), e1, Option.bind_some, app_le (m := 100) (by simp; omega) (by omega) (by omega), Option.bind_some, w2,
      G_slices_Concat_label_Label_label_Label_h_L2, if_neg (by simp)]
    simp
  rw [l2]; rfl

def okl (l : S_label_Label) : Bool := decide (0 ≤ l.fLevel) && decide (l.fLevel ≤ 7) && decide (0 ≤ l.fKind) && decide (l.fKind ≤ 255)
theorem okl_iff {l : S_label_Label} : okl l = true ↔ 0 ≤ l.fLevel ∧ l.fLevel ≤ 7 ∧ 0 ≤ l.fKind ∧ l.fKind ≤ 255 := by
  simp [okl, and_assoc]
theorem check_any (n : Nat) (l : S_label_Label) : G_label_Check n l = some (if okl l = true then 0 else 1) := by
  unfold G_label_Check G_label_Check_C1
  by_cases h : okl l = true
  · have := okl_iff.1 h
    rw [if_neg (by omega), if_neg (by omega), if_neg (by omega), decide_eq_false (by omega), if_pos h]; rfl
  · have h' : ¬ (0 ≤ l.fLevel ∧ l.fLevel ≤ 7 ∧ 0 ≤ l.fKind ∧ l.fKind ≤ 255) := fun q => h (okl_iff.2 q)
    rw [if_neg h]
    by_cases a1 : l.fLevel < 0
    · rw [if_pos a1]; rfl
    by_cases a2 : l.fLevel > 7
    · rw [if_neg a1, if_pos a2]; rfl
    by_cases a3 : l.fKind < 0
    · rw [if_neg a1, if_neg a2, if_pos a3]; rfl
    rw [if_neg a1, if_neg a2, if_neg a3, decide_eq_true (by omega)]; rfl
def fl (a b : S_label_Label) : Bool := decide (a.fLevel ≤ b.fLevel) && (bits .andNot .i64 a.fKind b.fKind == 0)
theorem flows_any (n : Nat) {a b : S_label_Label} (ha : okl a = true) (hb : okl b = true) : G_label_Flows n a b = some (fl a b, 0) := by
  unfold G_label_Flows G_label_both fl
  rw [check_any, Option.bind_some, if_pos ha, if_pos rfl, check_any, if_pos hb]
  simp only [Option.bind_some, if_true]
  by_cases h : a.fLevel ≤ b.fLevel
  · rw [if_pos h, decide_eq_true h]; rfl
  · rw [if_neg h, decide_eq_false h]; rfl
theorem bit1 : ∀ K, K < 256 → ∀ i, i < 8 → bits .and .i64 (shrI .i64 ((K : Nat) : Int) ((i : Nat) : Int)) 1 = if K.testBit i = true then 1 else 0 := by decide +kernel
theorem flow_loop (n : Nat) (lv to : Int) {K Q : Nat} (hK : K < 256) (hQ : Q < 256) : ∀ (k i : Nat), 8 - i < k → i ≤ 8 → G_ringref5_FlowsOf_L1 n lv (K : Int) to (Q : Int) k (i : Int) = if ((List.range 8).drop i).any (fun j => K.testBit j && !Q.testBit j) = true then some (.x0 false) else some .x1
  | 0, i, h, _ => by omega
  | k + 1, i, h, hi => by
    rw [G_ringref5_FlowsOf_L1]
    by_cases hlt : i < 8
    · have hr : (List.range 8)[i]? = some i := by rw [List.getElem?_range hlt]
      rw [if_pos (by omega), if_pos (by omega), bit1 K hK i hlt, bit1 Q hQ i hlt, drop_cons hr, List.any_cons, wi_succ (by omega), flow_loop n lv to hK hQ k (i + 1) (by omega) (by omega)]
      cases K.testBit i <;> cases Q.testBit i <;> simp
    · have : i = 8 := by omega
      subst this
      rw [if_neg (by omega)]; rfl
theorem flowsof_any (n : Nat) (hn : 10 ≤ n) {a b : S_label_Label} (ha : okl a = true) (hb : okl b = true) : G_ringref5_FlowsOf n a.fLevel a.fKind b.fLevel b.fKind = some (fl a b) := by
  have qa := okl_iff.1 ha
  have qb := okl_iff.1 hb
  obtain ⟨K, hK⟩ := Int.eq_ofNat_of_zero_le qa.2.2.1
  obtain ⟨Q, hQ⟩ := Int.eq_ofNat_of_zero_le qb.2.2.1
  unfold G_ringref5_FlowsOf fl
  rw [hK, hQ]
  have h := flow_loop n a.fLevel b.fLevel (K := K) (Q := Q) (by omega) (by omega) n 0 (by omega) (by omega)
  have h : G_ringref5_FlowsOf_L1 n a.fLevel (K : Int) b.fLevel (Q : Int) n 0 = _ := h
  rw [h, List.drop_zero, i64_andNot_nat K Q (by omega) (by omega)]
  have h0 := andNot0 K Q (by omega) (by omega)
  have e : (((K &&& (18446744073709551615 - Q) : Nat) : Int) == 0) = !((List.range 8).any fun j => K.testBit j && !Q.testBit j) := by
    rw [← h0]
    generalize K &&& (18446744073709551615 - Q) = z
    cases z <;> simp <;> omega
  rw [e]
  cases (List.range 8).any fun j => K.testBit j && !Q.testBit j <;> simp
section
variable (who what : List S_label_Label)
def inr (a : S_label_Act) : Bool := decide (0 ≤ a.fWho) && decide (a.fWho < who.length) && decide (0 ≤ a.fWhat) && decide (a.fWhat < what.length)
theorem inr_iff {a : S_label_Act} : inr who what a = true ↔ 0 ≤ a.fWho ∧ a.fWho < who.length ∧ 0 ≤ a.fWhat ∧ a.fWhat < what.length := by
  simp [inr, and_assoc]
def flow (a : S_label_Act) : Bool := match who[a.fWho.toNat]?, what[a.fWhat.toNat]? with
  | some p, some q => if a.fWrite = true then fl p q else fl q p
  | _, _ => false
theorem inr_get {a : S_label_Act} (h : inr who what a = true) : ∃ (w t : Nat) (p q : S_label_Label), a.fWho = (w : Int) ∧ a.fWhat = (t : Int) ∧ w < who.length ∧ t < what.length ∧ who[w]? = some p ∧ what[t]? = some q ∧ flow who what a = if a.fWrite = true then fl p q else fl q p := by
  obtain ⟨h1, h2, h3, h4⟩ := (inr_iff who what).1 h
  obtain ⟨w, hw⟩ := Int.eq_ofNat_of_zero_le h1
  obtain ⟨t, ht⟩ := Int.eq_ofNat_of_zero_le h3
  have l1 : w < who.length := by omega
  have l2 : t < what.length := by omega
  refine ⟨w, t, who[w], what[t], hw, ht, l1, l2, List.getElem?_eq_getElem l1, List.getElem?_eq_getElem l2, ?_⟩
  unfold flow
  rw [hw, ht, Int.toNat_natCast, Int.toNat_natCast, List.getElem?_eq_getElem l1, List.getElem?_eq_getElem l2]
variable (acts : List S_label_Act)
theorem run2 (n : Nat) (x : Int) (y : List S_label_Label) (hy : y.length ≤ 6) : ∀ (k i : Nat), y.length - i < k → i ≤ y.length → G_label_Run_L2 n who what acts x y k (i : Int) = if (y.drop i).all okl = true then some .x1 else some (.x0 1)
  | 0, i, h, _ => by omega
  | k + 1, i, h, hi => by
    rw [G_label_Run_L2]
    by_cases hlt : (i : Int) < (y.length : Int)
    · obtain ⟨z, hz⟩ := get_lt hlt
      rw [if_pos hlt, getI_nat, hz, Option.bind_some, check_any, Option.bind_some, drop_cons hz, List.all_cons, wi_succ (by omega), run2 n x y hy k (i + 1) (by omega) (by omega)]
      cases okl z <;> simp
    · rw [if_neg hlt, drop_end hlt]; rfl
theorem run3 (n : Nat) (hn : 10 ≤ n) (h1 : who.length ≤ 6) (h2 : what.length ≤ 6) : G_label_Run_L3 n who what acts n 0 = if who.all okl = true ∧ what.all okl = true then some .x1 else some (.x0 1) := by
  obtain ⟨m, rfl⟩ : ∃ m, n = m + 3 := ⟨n - 3, by omega⟩
  have e0 : getI [who, what] 0 = some who := rfl
  have e1 : getI [who, what] 1 = some what := rfl
  have w1 : wi .i64 ((0 : Int) + 1) = 1 := rfl
  have w2 : wi .i64 ((1 : Int) + 1) = 2 := rfl
  have r1 := fun x => run2 who what acts (m + 3) x who h1 (m + 3) 0 (by omega) (by omega)
  have r2 := fun x => run2 who what acts (m + 3) x what h2 (m + 3) 0 (by omega) (by omega)
  simp only [List.drop_zero] at r1 r2
  have r1 : ∀ x, G_label_Run_L2 (m + 3) who what acts x who (m + 3) 0 = _ := r1
  have r2 : ∀ x, G_label_Run_L2 (m + 3) who what acts x what (m + 3) 0 = _ := r2
  rw [G_label_Run_L3, if_pos (by simp), e0, Option.bind_some, r1]
  cases ha : who.all okl with
  | false => simp
  | true =>
    simp only [if_true, Option.bind_some]
    rw [w1, G_label_Run_L3, if_pos (by simp), e1, Option.bind_some, r2]
    cases hb : what.all okl with
    | false => simp
    | true =>
      simp only [if_true, Option.bind_some]
      rw [w2, G_label_Run_L3, if_neg (by simp)]; simp
theorem act_out {a : S_label_Act} (h : ¬ inr who what a = true) : ¬ (0 ≤ a.fWho ∧ a.fWho < who.length ∧ 0 ≤ a.fWhat ∧ a.fWhat < what.length) := fun q => h ((inr_iff who what).2 q)
theorem run4 (n : Nat) (x : Int) (w : List Bool) (a : S_label_Act) : G_label_Run_C4 n who what acts x w a = some (.x0 (!inr who what a) w) := by
  unfold G_label_Run_C4
  by_cases h : inr who what a = true
  · have := (inr_iff who what).1 h
    rw [if_neg (by omega), if_neg (by omega), if_neg (by omega), decide_eq_false (by omega), h]; rfl
  · have h' := act_out who what h
    have e : inr who what a = false := by simpa using h
    rw [e]
    by_cases a1 : a.fWho < 0
    · rw [if_pos a1]; rfl
    by_cases a2 : a.fWho ≥ who.length
    · rw [if_neg a1, if_pos a2]; rfl
    by_cases a3 : a.fWhat < 0
    · rw [if_neg a1, if_neg a2, if_pos a3]; rfl
    rw [if_neg a1, if_neg a2, if_neg a3, decide_eq_true (by omega)]; rfl
theorem all_get {l : List S_label_Label} (h : l.all okl = true) {i : Nat} {x : S_label_Label} (hx : l[i]? = some x) : okl x = true := List.all_eq_true.1 h x (List.mem_of_getElem? hx)
theorem run5 (n : Nat) (hw1 : who.all okl = true) (hw2 : what.all okl = true) (ha : acts.length ≤ 40) : ∀ (k i : Nat) (w : List Bool), acts.length - i < k → i ≤ acts.length → w.length = i → G_label_Run_L5 n who what acts k (i : Int) w = if (acts.drop i).all (inr who what) = true then some (.x1 (w ++ (acts.drop i).map (flow who what))) else some (.x0 4)
  | 0, i, w, h, _, _ => by omega
  | k + 1, i, w, h, hi, hw => by
    rw [G_label_Run_L5]
    by_cases hlt : (i : Int) < (acts.length : Int)
    · obtain ⟨a, hz⟩ := get_lt hlt
      rw [if_pos hlt, getI_nat, hz, Option.bind_some, run4, Option.bind_some, drop_cons hz, List.all_cons, List.map_cons]
      cases hin : inr who what a with
      | false => simp
      | true =>
        obtain ⟨s, t, p, q, e1, e2, _, _, e3, e4, e5⟩ := inr_get who what hin
        have hp := all_get hw1 e3
        have hq := all_get hw2 e4
        simp only [Bool.not_true, Bool.false_eq_true, if_false]
        rw [e1, e2, getI_nat, getI_nat, e3, e4]
        simp only [Option.bind_some, flows_any n hq hp, flows_any n hp hq]
        have ih := run5 n hw1 hw2 ha k (i + 1) (w ++ [flow who what a]) (by omega) (by omega) (by simp; omega)
        rw [e5] at ih ⊢
        have hap : ∀ b : Bool, app 1 w [b] = some (w ++ [b]) := fun b => app_some (by simp; omega) (by omega)
        cases hwr : a.fWrite with
        | true =>
          rw [hwr] at ih
          simp only [if_true, Option.bind_some, hap, wi_succ (show i < 4611686018427387904 by omega), Bool.true_and] at ih ⊢
          rw [ih]; simp
        | false =>
          rw [hwr] at ih
          simp only [Bool.false_eq_true, if_false, Option.bind_some, hap, wi_succ (show i < 4611686018427387904 by omega), Bool.true_and] at ih ⊢
          rw [ih]; simp
    · rw [if_neg hlt, drop_end hlt]; simp
/-- what is wrong with what is handed in -/
def verdict : Int := if who.length > 6 ∨ what.length > 6 ∨ acts.length > 40 then 2 else if who.all okl = true ∧ what.all okl = true then (if acts.all (inr who what) = true then 0 else 4) else 1
theorem c1_any {n : Nat} : G_label_Run_C1 n who what acts = some (.x0 (decide (who.length > 6 ∨ what.length > 6 ∨ acts.length > 40))) := by
  unfold G_label_Run_C1
  by_cases a1 : (who.length : Int) > 6
  · rw [if_pos a1, decide_eq_true (by omega)]
  by_cases a2 : (what.length : Int) > 6
  · rw [if_neg a1, if_pos a2, decide_eq_true (by omega)]
  rw [if_neg a1, if_neg a2]
  by_cases a3 : (acts.length : Int) > 40
  · rw [decide_eq_true a3, decide_eq_true (by omega)]
  · rw [decide_eq_false a3, decide_eq_false (by omega)]
theorem run_any (n : Nat) (hn : 100 ≤ n) : G_label_Run n who what acts = some (if verdict who what acts = 0 then acts.map (flow who what) else [], verdict who what acts) := by
  unfold G_label_Run verdict
  rw [c1_any, Option.bind_some]
  by_cases h : who.length > 6 ∨ what.length > 6 ∨ acts.length > 40
  · simp [h]
  · rw [decide_eq_false h]
    simp only [Bool.false_eq_true, if_false, if_neg h]
    rw [run3 who what acts n (by omega) (by omega) (by omega)]
    by_cases h2 : who.all okl = true ∧ what.all okl = true
    · have h5 := run5 who what acts n h2.1 h2.2 (by omega) n 0 [] (by omega) (by omega) rfl
      have h5 : G_label_Run_L5 n who what acts n 0 [] = _ := h5
      rw [if_pos h2, if_pos h2, Option.bind_some]
      simp only []
      rw [h5, List.drop_zero]
      by_cases h3 : acts.all (inr who what) = true
      · rw [if_pos h3, if_pos h3]; simp
      · rw [if_neg h3, if_neg h3]; simp
    · rw [if_neg h2, if_neg h2]; simp
end
end Go.Proofs.Ytjjjaakefnnbpaa.labelRuns
