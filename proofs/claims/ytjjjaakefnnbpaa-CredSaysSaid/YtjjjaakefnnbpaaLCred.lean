/- CredSays returns true for every credentials and number, and leaves its arguments alone. No condition. -/
import Derived.Test.YtjjjaakefnnbpaaGuCredSays
import Derived.Test.YtjjjaakefnnbpaaLib
import Derived.ChangeOld
namespace Go.Proofs.Ytjjjaakefnnbpaa.credSays
open Go.ChangeShapes Go.WideShapes Go.ChangeAt Go.RowKit help rep pv
set_option linter.all false

theorem index_loop (n : Nat) (l : List Int) (v : Int) (hl : l.length < 1000000) : ∀ (k i : Nat), l.length - i < k → i ≤ l.length →
    ∃ o, G_slices_Index_int_int_L1 n l v k (i : Int) = some o ∧ (match o with | .x0 j => 0 ≤ j ∧ v ∈ l.drop i | .x1 => ¬ v ∈ l.drop i)
  | 0, i, h, _ => by omega
  | k + 1, i, h, hi => by
    rw [G_slices_Index_int_int_L1]
    by_cases hlt : (i : Int) < (l.length : Int)
    · obtain ⟨x, hx⟩ := get_lt hlt
      rw [if_pos hlt, getI_nat, hx, Option.bind_some, drop_cons hx]
      by_cases e : v = x
      · rw [if_pos e]
        exact ⟨_, rfl, by omega, by simp [e]⟩
      · rw [if_neg e, wi_succ (by omega)]
        obtain ⟨o, h1, h2⟩ := index_loop n l v hl k (i + 1) (by omega) (by omega)
        refine ⟨o, h1, ?_⟩
        cases o with
        | x0 j => exact ⟨h2.1, by simp [h2.2]⟩
        | x1 => simpa [e] using h2
    · rw [if_neg hlt, drop_end hlt]
      exact ⟨_, rfl, by simp⟩
theorem contains_any (n : Nat) (l : List Int) (v : Int) (hl : l.length < 1000000) (hn : l.length < n) : G_slices_Contains_int_int n l v = some (l.contains v) := by
  unfold G_slices_Contains_int_int G_slices_Index_int_int
  obtain ⟨o, h1, h2⟩ := index_loop n l v hl n 0 (by omega) (by omega)
  have h1 : G_slices_Index_int_int_L1 n l v n 0 = some o := h1
  rw [h1, Option.bind_some]
  cases o with
  | x0 j =>
    simp only [List.drop_zero] at h2
    simp [h2.1, h2.2]
  | x1 =>
    simp only [List.drop_zero] at h2
    simp [h2]
theorem equal_loop (n : Nat) (l : List Int) (hl : l.length < 1000000) : ∀ (k i : Nat), l.length - i < k → i ≤ l.length → G_slices_Equal_int_int_L1 n l l k (i : Int) = some .x1
  | 0, i, h, _ => by omega
  | k + 1, i, h, hi => by
    rw [G_slices_Equal_int_int_L1]
    by_cases hlt : (i : Int) < (l.length : Int)
    · obtain ⟨x, hx⟩ := get_lt hlt
      rw [if_pos hlt, getI_nat, hx, Option.bind_some, Option.bind_some, if_pos rfl, wi_succ (by omega)]
      exact equal_loop n l hl k (i + 1) (by omega) (by omega)
    · rw [if_neg hlt]
theorem equal_self (n : Nat) (l : List Int) (hl : l.length < 1000000) (hn : l.length < n) : G_slices_Equal_int_int n l l = some true := by
  unfold G_slices_Equal_int_int
  have := equal_loop n l hl n 0 (by omega) (by omega)
  have : G_slices_Equal_int_int_L1 n l l n 0 = some .x1 := this
  rw [if_pos rfl, this]; rfl
/-- credentials that are right -/
def okc (c : S_api_Cred) : Prop := c.fMore.length ≤ 4 ∧ 0 ≤ c.fCaps ∧ c.fCaps ≤ 127
theorem l1_eq (n : Nat) (c : S_api_Cred) : G_cred_Check_L1 (n + 3) c (n + 3) 0 = if c.fUser < 0 then some (.x0 1) else if c.fUser > 99 then some (.x0 1) else if c.fGroup < 0 then some (.x0 1) else if c.fGroup > 99 then some (.x0 1) else some .x1 := by
  have g0 : getI [c.fUser, c.fGroup] 0 = some c.fUser := rfl
  have g1 : getI [c.fUser, c.fGroup] 1 = some c.fGroup := rfl
  have w1 : wi .i64 ((0 : Int) + 1) = 1 := rfl
  have w2 : wi .i64 ((1 : Int) + 1) = 2 := rfl
  have t3 : G_cred_Check_L1 (n + 3) c (n + 1) 2 = some .x1 := by rw [G_cred_Check_L1, if_neg (by simp)]
  have t2 : G_cred_Check_L1 (n + 3) c (n + 2) 1 = if c.fGroup < 0 then some (.x0 1) else if c.fGroup > 99 then some (.x0 1) else some .x1 := by rw [G_cred_Check_L1, if_pos (by simp), g1, Option.bind_some, w2, t3]
  rw [G_cred_Check_L1, if_pos (by simp), g0, Option.bind_some, w1, t2]
theorem ids_any (n : Nat) (c : S_api_Cred) : ∃ b : Bool, G_ringref5_CredErr_C1 (n + 3) c = some (.x0 b) ∧ G_cred_Check_L1 (n + 3) c (n + 3) 0 = some (if b then .x0 1 else .x1) := by
  rw [l1_eq]
  by_cases h : 0 ≤ c.fUser ∧ c.fUser ≤ 99 ∧ 0 ≤ c.fGroup ∧ c.fGroup ≤ 99
  · refine ⟨false, ?_, ?_⟩
    · unfold G_ringref5_CredErr_C1 minI maxI
      rw [if_neg (by split <;> omega)]
      have : ¬ ((if c.fGroup > c.fUser then c.fGroup else c.fUser) > 99) := by split <;> omega
      simp only [decide_eq_false this]
    · rw [if_neg (by omega), if_neg (by omega), if_neg (by omega), if_neg (by omega)]; rfl
  · refine ⟨true, ?_, ?_⟩
    · unfold G_ringref5_CredErr_C1 minI maxI
      by_cases h' : (if c.fGroup < c.fUser then c.fGroup else c.fUser) < 0
      · rw [if_pos h']
      · rw [if_neg h']
        have : ((if c.fGroup > c.fUser then c.fGroup else c.fUser) > 99) := by split at h' <;> split <;> omega
        simp only [decide_eq_true this]
    · by_cases a1 : c.fUser < 0
      · rw [if_pos a1]; rfl
      by_cases a2 : c.fUser > 99
      · rw [if_neg a1, if_pos a2]; rfl
      by_cases a3 : c.fGroup < 0
      · rw [if_neg a1, if_neg a2, if_pos a3]; rfl
      by_cases a4 : c.fGroup > 99
      · rw [if_neg a1, if_neg a2, if_neg a3, if_pos a4]; rfl
      omega
theorem more_any (n : Nat) (c : S_api_Cred) (hl : c.fMore.length < 1000000) : ∀ (k i : Nat) (last : Int), c.fMore.length - i < k → i ≤ c.fMore.length → (i = 0 → last = -1) → (∀ j, i = j + 1 → c.fMore[j]? = some last) →
    (∃ e : Int, e ≠ 0 ∧ G_cred_Check_L2 n c k (i : Int) = some (.x0 e) ∧ G_ringref5_CredErr_L2 n c k last (i : Int) = some (.x0 e)) ∨ (G_cred_Check_L2 n c k (i : Int) = some .x1 ∧ G_ringref5_CredErr_L2 n c k last (i : Int) = some .x1)
  | 0, i, last, h, _, _, _ => by omega
  | k + 1, i, last, h, hi, h0, hj => by
    rw [G_cred_Check_L2, G_ringref5_CredErr_L2]
    by_cases hlt : (i : Int) < (c.fMore.length : Int)
    · obtain ⟨x, hx⟩ := get_lt hlt
      rw [if_pos hlt, if_pos hlt, getI_nat, hx, Option.bind_some, Option.bind_some]
      by_cases h1 : x < 0
      · exact .inl ⟨1, by decide, by rw [if_pos h1], by rw [if_pos h1]⟩
      by_cases h2 : x > 99
      · exact .inl ⟨1, by decide, by rw [if_neg h1, if_pos h2], by rw [if_neg h1, if_pos h2]⟩
      rw [if_neg h1, if_neg h1, if_neg h2, if_neg h2, wi_succ (by omega)]
      have ih := more_any n c hl k (i + 1) x (by omega) (by omega) (by omega) (fun j e => by
        have : j = i := by omega
        subst this; exact hx)
      cases i with
      | zero =>
        rw [h0 rfl, if_neg (by omega), if_neg (by omega)]
        exact ih
      | succ j =>
        have hy := hj j rfl
        rw [if_pos (by omega)]
        have e : wi .i64 (((j + 1 : Nat) : Int) - 1) = (j : Int) := by rw [wi64 (by omega) (by omega)]; omega
        rw [e, getI_nat, hy, Option.bind_some]
        by_cases h4 : x ≤ last
        · exact .inl ⟨3, by decide, by rw [if_pos h4], by rw [if_pos h4]⟩
        · rw [if_neg h4, if_neg h4]; exact ih
    · rw [if_neg hlt, if_neg hlt]; exact .inr ⟨rfl, rfl⟩
theorem caps_any (n : Nat) (c : S_api_Cred) : ∃ b, G_cred_Check_C3 n c = some (.x0 b) ∧ G_ringref5_CredErr_C3 n c = some (.x0 b) ∧ (b = false → 0 ≤ c.fCaps ∧ c.fCaps ≤ 127) := by
  by_cases h : 0 ≤ c.fCaps ∧ c.fCaps ≤ 127 ∧ 0 ≤ c.fLevel ∧ c.fLevel ≤ 7 ∧ 0 ≤ c.fKind ∧ c.fKind ≤ 255
  · refine ⟨false, ?_, ?_, fun _ => ⟨h.1, h.2.1⟩⟩
    · unfold G_cred_Check_C3
      rw [if_neg (by omega), if_neg (by omega), if_neg (by omega), if_neg (by omega), if_neg (by omega), decide_eq_false (by omega)]
    · unfold G_ringref5_CredErr_C3 minI
      rw [if_neg (by split <;> split at * <;> omega), if_neg (by omega), if_neg (by omega), decide_eq_false (by omega)]
  · refine ⟨true, ?_, ?_, by simp⟩
    · unfold G_cred_Check_C3
      by_cases h1 : c.fCaps < 0
      · rw [if_pos h1]
      by_cases h2 : c.fCaps > 127
      · rw [if_neg h1, if_pos h2]
      by_cases h3 : c.fLevel < 0
      · rw [if_neg h1, if_neg h2, if_pos h3]
      by_cases h4 : c.fLevel > 7
      · rw [if_neg h1, if_neg h2, if_neg h3, if_pos h4]
      by_cases h5 : c.fKind < 0
      · rw [if_neg h1, if_neg h2, if_neg h3, if_neg h4, if_pos h5]
      rw [if_neg h1, if_neg h2, if_neg h3, if_neg h4, if_neg h5, decide_eq_true (by omega)]
    · unfold G_ringref5_CredErr_C3
      by_cases h1 : minI (minI c.fCaps c.fLevel) c.fKind < 0
      · rw [if_pos h1]
      have h1' : 0 ≤ c.fCaps ∧ 0 ≤ c.fLevel ∧ 0 ≤ c.fKind := by
        unfold minI at h1
        split at h1 <;> split at h1 <;> omega
      by_cases h2 : c.fCaps > 127
      · rw [if_neg h1, if_pos h2]
      by_cases h4 : c.fLevel > 7
      · rw [if_neg h1, if_neg h2, if_pos h4]
      rw [if_neg h1, if_neg h2, if_neg h4, decide_eq_true (by omega)]
theorem check_any (c : S_api_Cred) : ∃ e, G_cred_Check 20 c = some e ∧ G_ringref5_CredErr 20 c = some e ∧ (e = 0 → okc c) := by
  unfold G_cred_Check G_ringref5_CredErr
  obtain ⟨b, h1, h2⟩ := ids_any 17 c
  have h1 : G_ringref5_CredErr_C1 20 c = some (.x0 b) := h1
  have h2 : G_cred_Check_L1 20 c 20 0 = some (if b then .x0 1 else .x1) := h2
  rw [h1, h2, Option.bind_some, Option.bind_some]
  cases b with
  | true => exact ⟨1, rfl, rfl, by simp⟩
  | false =>
    simp only [Bool.false_eq_true, if_false]
    by_cases hm : (c.fMore.length : Int) > 4
    · exact ⟨2, by simp only [if_pos hm], by simp only [if_pos hm], by simp⟩
    · simp only [if_neg hm]
      rcases more_any 20 c (by omega) 20 0 (-1) (by omega) (by omega) (fun _ => rfl) (fun j h => by omega) with ⟨e, h3, h4, h5⟩ | ⟨h4, h5⟩
      · have h4 : G_cred_Check_L2 20 c 20 0 = _ := h4
        have h5 : G_ringref5_CredErr_L2 20 c 20 (-1) 0 = _ := h5
        rw [h4, h5]
        exact ⟨e, rfl, rfl, fun h => absurd h h3⟩
      · have h4 : G_cred_Check_L2 20 c 20 0 = _ := h4
        have h5 : G_ringref5_CredErr_L2 20 c 20 (-1) 0 = _ := h5
        obtain ⟨b, h6, h7, h8⟩ := caps_any 20 c
        rw [h4, h5]
        simp only [Option.bind_some, h6, h7]
        cases b
        · exact ⟨0, by simp, by simp, fun _ => ⟨by omega, h8 rfl⟩⟩
        · exact ⟨1, by simp, by simp, by simp⟩
theorem in_any (c : S_api_Cred) (g : Int) (h : G_cred_Check 20 c = some 0) (hc : okc c) : G_cred_In 20 c g = some ((g == c.fGroup) || c.fMore.contains g, 0) := by
  unfold G_cred_In
  rw [h, Option.bind_some, if_pos rfl, contains_any 20 _ _ (by have := hc.1; omega) (by have := hc.1; omega)]
  by_cases e : g = c.fGroup
  · simp [e]
  · simp [e]
theorem less_any (n : Nat) (x y : Int) : G_cmp_Less_int n x y = some (decide (x < y)) := by
  unfold G_cmp_Less_int G_cmp_Less_int_C1 G_cmp_isNaN_int
  simp
/-- w is sorted up to i, but for what stands at j, which is less than all behind it -/
def sunk (w : List Int) (i j : Nat) : Prop := (∀ p q x y, p < q → q ≤ i → p ≠ j → q ≠ j → w[p]? = some x → w[q]? = some y → x ≤ y) ∧ (∀ q x y, j < q → q ≤ i → w[j]? = some x → w[q]? = some y → x ≤ y)
def sortedTo (w : List Int) (i : Nat) : Prop := ∀ p q x y, p < q → q < i → w[p]? = some x → w[q]? = some y → x ≤ y
theorem sink_any (n : Nat) (b ii : Int) : ∀ (k j : Nat) (w : List Int) (i : Nat), j < k → j ≤ i → i < w.length → w.length < 1000 → sunk w i j →
    ∃ r, G_slices_insertionSortOrdered_int_h_L1 n 0 b ii k (j : Int) w = some (.x0 r) ∧ r.Perm w ∧ sortedTo r (i + 1)
  | 0, j, w, i, h, _, _, _, _ => by omega
  | k + 1, j, w, i, h, hji, hi, hl, hs => by
    rw [G_slices_insertionSortOrdered_int_h_L1]
    cases j with
    | zero =>
      rw [if_neg (by simp)]
      refine ⟨w, rfl, List.Perm.refl _, fun p q x y hpq hq hx hy => ?_⟩
      cases p with
      | zero => exact hs.2 q x y hpq (by omega) hx hy
      | succ p => exact hs.1 (p + 1) q x y hpq (by omega) (by omega) (by omega) hx hy
    | succ j =>
      have e1 : wi .i64 (((j + 1 : Nat) : Int) - 1) = (j : Int) := by rw [wi64 (by omega) (by omega)]; omega
      have h1 : j + 1 < w.length := by omega
      have h0 : j < w.length := by omega
      rw [if_pos (by omega), if_pos ⟨by omega, by simpa using h1⟩, e1]
      simp only [Int.toNat_natCast]
      rw [List.getElem?_eq_getElem h1, Option.bind_some, if_pos ⟨by omega, h0⟩, List.getElem?_eq_getElem h0, Option.bind_some, less_any, Option.bind_some]
      by_cases hlt : w[j + 1] < w[j]
      · rw [if_pos (by simpa using hlt), if_pos ⟨by omega, h0⟩, Option.bind_some, if_pos ⟨by omega, h1⟩, Option.bind_some, if_pos ⟨by omega, h1⟩, Option.bind_some]
        have h0' : j < (w.set (j + 1) w[j]).length := by simpa using h0
        rw [if_pos ⟨by omega, h0'⟩, List.getElem?_eq_getElem h0', Option.bind_some]
        have hp : ((w.set (j + 1) w[j]).set j w[j + 1]).Perm w := List.set_set_perm h1 h0
        have hlen := hp.length_eq
        have hget : ∀ (p : Nat), ((w.set (j + 1) w[j]).set j w[j + 1])[p]? = if p = j then some w[j + 1] else if p = j + 1 then some w[j] else w[p]? := by
          intro p
          rw [List.getElem?_set, List.getElem?_set]
          by_cases a : p = j
          · subst a; simp [h0]
          · rw [if_neg (fun e => a e.symm), if_neg a]
            by_cases b : p = j + 1
            · subst b; simp [h1]
            · rw [if_neg (fun e => b e.symm), if_neg b]
        obtain ⟨r, r1, r2, r3⟩ := sink_any n b ii k j _ i (by omega) (by omega) (by rw [hlen]; exact hi) (by rw [hlen]; exact hl) (by
          refine ⟨fun p q x y hpq hq hp' hq' hx hy => ?_, fun q x y hq hqi hx hy => ?_⟩
          · rw [hget] at hx hy
            rw [if_neg hp'] at hx
            rw [if_neg hq'] at hy
            by_cases a : p = j + 1
            · rw [if_pos a] at hx
              rw [if_neg (by omega)] at hy
              cases hx
              exact hs.1 j q _ _ (by omega) hq (by omega) (by omega) (List.getElem?_eq_getElem h0) hy
            · rw [if_neg a] at hx
              by_cases c : q = j + 1
              · rw [if_pos c] at hy
                cases hy
                exact hs.1 p j _ _ (by omega) (by omega) a (by omega) hx (List.getElem?_eq_getElem h0)
              · rw [if_neg c] at hy
                exact hs.1 p q x y hpq hq a c hx hy
          · rw [hget] at hx hy
            rw [if_pos rfl] at hx
            cases hx
            rw [if_neg (by omega)] at hy
            by_cases c : q = j + 1
            · rw [if_pos c] at hy
              cases hy
              omega
            · rw [if_neg c] at hy
              exact hs.2 q _ y (by omega) hqi (List.getElem?_eq_getElem h1) hy)
        exact ⟨r, r1, r2.trans hp, r3⟩
      · rw [if_neg (by simpa using hlt)]
        refine ⟨w, rfl, List.Perm.refl _, fun p q x y hpq hq hx hy => ?_⟩
        by_cases a : p = j + 1
        · subst a; exact hs.2 q x y hpq (by omega) hx hy
        · by_cases c : q = j + 1
          · subst c
            rw [List.getElem?_eq_getElem h1] at hy
            cases hy
            by_cases d : p = j
            · subst d
              rw [List.getElem?_eq_getElem h0] at hx
              cases hx
              omega
            · have := hs.1 p j x _ (by omega) (by omega) a (by omega) hx (List.getElem?_eq_getElem h0)
              omega
          · exact hs.1 p q x y hpq (by omega) a c hx hy
theorem isort_any (n : Nat) : ∀ (k i : Nat) (w : List Int), w.length - i < k → w.length < n → w.length < 1000 → 0 < i → sortedTo w i →
    ∃ r, G_slices_insertionSortOrdered_int_h_L2 n 0 (w.length : Int) k (i : Int) w = some (.x0 r) ∧ r.Perm w ∧ sortedTo r w.length
  | 0, i, w, h, _, _, _, _ => by omega
  | k + 1, i, w, h, hn, hl, h0, hs => by
    rw [G_slices_insertionSortOrdered_int_h_L2]
    by_cases hlt : (i : Int) < (w.length : Int)
    · rw [if_pos hlt]
      obtain ⟨r, r1, r2, r3⟩ := sink_any n (w.length : Int) (i : Int) n i w i (by omega) (Nat.le_refl _) (by omega) hl
        ⟨fun p q x y hpq hq _ hq' hx hy => hs p q x y hpq (by omega) hx hy, fun q x y hq hqi _ _ => by omega⟩
      rw [r1, Option.bind_some]
      have hlen := r2.length_eq
      simp only [wi_succ (show i < 4611686018427387904 by omega)]
      rw [← hlen]
      obtain ⟨r', q1, q2, q3⟩ := isort_any n k (i + 1) r (by omega) (by omega) (by omega) (by omega) r3
      exact ⟨r', q1, q2.trans r2, q3⟩
    · rw [if_neg hlt]
      exact ⟨w, rfl, List.Perm.refl _, fun p q x y hpq hq hx hy => hs p q x y hpq (by omega) hx hy⟩
theorem getS_lt (s : ByteArray) (j : Int) (h0 : 0 ≤ j) (h1 : j.toNat < s.size) : ∃ y, getS s j = some y := by
  unfold getS
  rw [if_pos h0]
  have : s[j.toNat]? = some s[j.toNat] := by rw [getElem?_pos]
  rw [this]
  exact ⟨_, rfl⟩
theorem len_aux (s : ByteArray) (j : Int) (g : Int → Int) (h0 : 0 ≤ j) (h1 : j.toNat < s.size) : ∃ r, ((getS s j).bind fun y => some (g y)).bind (fun r => some r) = some r := by
  obtain ⟨y, hy⟩ := getS_lt s j h0 h1
  rw [hy]; exact ⟨_, rfl⟩
theorem len_any (n m : Nat) (h : m < 256) : ∃ r, G_math_bits_Len n (wi .u64 (m : Int)) = some r := by
  have e : wi .u64 (m : Int) = (m : Int) := by rw [wi, IntKind.wrap_u64]; omega
  unfold G_math_bits_Len G_math_bits_Len64
  rw [e, if_neg (by omega), if_neg (by omega), if_neg (by omega)]
  refine len_aux _ _ _ ?_ ?_
  · rw [wu8 (by omega) (by omega)]; omega
  · rw [wu8 (by omega) (by omega)]
    refine Nat.lt_of_lt_of_le (m := 256) (by simpa using h) (Nat.le_of_eq ?_)
    decide +kernel
theorem sort_any (n : Nat) (xs : List Int) (hl : xs.length ≤ 12) (hn : 14 ≤ n) : ∃ r, G_slices_Sort_int_int_h n xs = some r ∧ r.Perm xs ∧ r.Pairwise (· ≤ ·) := by
  unfold G_slices_Sort_int_int_h
  obtain ⟨l, hl'⟩ := len_any n xs.length (by omega)
  rw [hl', Option.bind_some]
  unfold G_slices_pdqsortOrdered_int_h
  obtain ⟨m, rfl⟩ : ∃ m, n = m + 1 := ⟨n - 1, by omega⟩
  obtain ⟨r, r1, r2, r3⟩ := isort_any (m + 1) (m + 1) 1 xs (by omega) (by omega) (by omega) (by omega) (fun p q x y hpq hq _ _ => by omega)
  have hi : G_slices_insertionSortOrdered_int_h (m + 1) xs 0 (xs.length : Int) = some r := by
    unfold G_slices_insertionSortOrdered_int_h
    rw [show wi .i64 ((0 : Int) + 1) = ((1 : Nat) : Int) from rfl, r1]; rfl
  have hp : G_slices_pdqsortOrdered_int_h_L1 (m + 1) (m + 1) 0 (xs.length : Int) l true true xs = some (.x0 r) := by
    rw [G_slices_pdqsortOrdered_int_h_L1, if_pos (by rw [wi64 (by omega) (by omega)]; omega), hi]; rfl
  rw [hp]
  refine ⟨r, rfl, r2, ?_⟩
  rw [List.pairwise_iff_getElem]
  intro p q hp hq hpq
  exact r3 p q _ _ hpq (by rw [← r2.length_eq]; exact hq) (List.getElem?_eq_getElem hp) (List.getElem?_eq_getElem hq)
/-- two sorted lists of the same numbers are one -/
theorem sorted_eq {a b : List Int} (hp : a.Perm b) (ha : a.Pairwise (· ≤ ·)) (hb : b.Pairwise (· ≤ ·)) : a = b := hp.eq_of_pairwise (fun _ _ _ _ h1 h2 => by omega) ha hb
def none0 : S_api_Cred := S_api_Cred.mk 0 0 [] 0 0 0
theorem same_refl (c : S_api_Cred) (h : c.fMore.length ≤ 5) : G_ringref5_SameCred 20 c c = some true := by
  unfold G_ringref5_SameCred G_ringref5_SameCred_C1
  rw [if_pos rfl, if_pos rfl, equal_self 20 _ (by omega) (by omega)]
  simp
theorem facts : ∀ A, A < 128 → ∀ B, B < 128 → (bits .andNot .i64 ((A : Nat) : Int) ((B : Nat) : Int)) = wi .i64 (((A : Nat) : Int) - bits .and .i64 ((A : Nat) : Int) ((B : Nat) : Int)) ∧
    ((bits .andNot .i64 ((B : Nat) : Int) ((A : Nat) : Int)) == 0) = (wi .i64 (((A : Nat) : Int) - bits .and .i64 ((A : Nat) : Int) ((B : Nat) : Int)) == wi .i64 (((A : Nat) : Int) - ((B : Nat) : Int))) := by decide +kernel
theorem bit8 : ∀ A, A < 128 → ((bits .and .i64 ((A : Nat) : Int) 8) = 0 ↔ (remI (quoI .i64 ((A : Nat) : Int) 8) 2) = 0) := by decide +kernel
theorem clone_any (n : Nat) (l : List Int) (h : l.length ≤ 4) : G_slices_Clone_int_int n l = some l := by
  unfold G_slices_Clone_int_int
  exact app_arg (by omega) (by omega)
theorem copied_any (n : Nat) (c : S_api_Cred) (h : c.fMore.length ≤ 4) : G_cred_copied_h n c = some c := by
  unfold G_cred_copied_h
  rw [clone_any n _ h]; rfl
end Go.Proofs.Ytjjjaakefnnbpaa.credSays
