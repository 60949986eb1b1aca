/- PathSplits: the plain law. -/
import Derived.Test.YtkeikccopkjgiaaDoorLPath
namespace Go.Proofs.YtkeikccopkjgiaaDoor.pathSplits
open Go.RowKit help pv
set_option linter.all false
set_option maxRecDepth 100000

def long (y : ByteArray) : Bool := decide (y.size > 14)
def some_ (y : ByteArray) : Bool := decide (y.size ≠ 0)
theorem empty_iff (y : ByteArray) : (y.toList == (ByteArray.mk #[]).toList) = decide (y.size = 0) := by
  rw [ByteArray.toList_eq, ByteArray.toList_eq, Lib.size_eq]
  cases h : y.data.toList with
  | nil => rfl
  | cons a t => simp
theorem prog_loop (n : Nat) (s : ByteArray) (L : List ByteArray) (hL : L.length ≤ 100) : ∀ (k i : Nat) (w : List ByteArray), L.length - i < k → i ≤ L.length → w.length ≤ i → G_path_Split_L1 n s L k (i : Int) w = if (L.drop i).any long = true then some (.x0 false 3) else some (.x1 (w ++ (L.drop i).filter some_))
  | 0, i, w, h, _, _ => by omega
  | k + 1, i, w, h, hi, hw => by
    rw [G_path_Split_L1]
    by_cases hlt : (i : Int) < (L.length : Int)
    · obtain ⟨y, hy⟩ := get_lt hlt
      rw [if_pos hlt, getI_nat, hy, Option.bind_some, drop_cons hy, List.any_cons, List.filter_cons, empty_iff]
      by_cases h1 : (y.size : Int) > 14
      · rw [if_pos h1]
        have : long y = true := by unfold long; exact decide_eq_true (by omega)
        rw [this]; rfl
      · have : long y = false := by unfold long; exact decide_eq_false (by omega)
        rw [if_neg h1, this, Bool.false_or, wi_succ (by omega)]
        by_cases h2 : y.size = 0
        · rw [if_neg (show ¬ (!decide (y.size = 0)) = true by simp [h2]), if_neg (show ¬ some_ y = true by simp [some_, h2]), prog_loop n s L hL k (i + 1) w (by omega) (by omega) (by omega)]
        · rw [if_pos (show (!decide (y.size = 0)) = true by simp [h2]), if_pos (show some_ y = true by simp [some_, h2]), app_some (by simp; omega) (by omega), Option.bind_some, prog_loop n s L hL k (i + 1) (w ++ [y]) (by omega) (by omega) (by simp; omega)]
          simp
    · rw [if_neg hlt, drop_end hlt]; simp
theorem ref_loop (n : Nat) (s : ByteArray) (L : List ByteArray) (hL : L.length ≤ 100) : ∀ (k i : Nat), L.length - i < k → i ≤ L.length → G_ringref5_SplitOf_L1 n s L k (i : Int) = if (L.drop i).any long = true then some (.x0 false 3) else some .x1
  | 0, i, h, _ => by omega
  | k + 1, i, h, hi => by
    rw [G_ringref5_SplitOf_L1]
    by_cases hlt : (i : Int) < (L.length : Int)
    · obtain ⟨y, hy⟩ := get_lt hlt
      rw [if_pos hlt, getI_nat, hy, Option.bind_some, drop_cons hy, List.any_cons]
      by_cases h1 : (y.size : Int) > 14
      · rw [if_pos h1]
        have : long y = true := by unfold long; exact decide_eq_true (by omega)
        rw [this]; rfl
      · have : long y = false := by unfold long; exact decide_eq_false (by omega)
        rw [if_neg h1, this, Bool.false_or, wi_succ (by omega), ref_loop n s L hL k (i + 1) (by omega) (by omega)]
    · rw [if_neg hlt, drop_end hlt]; simp
theorem equal_loop (n : Nat) (L : List ByteArray) (hL : L.length ≤ 100) : ∀ (k i : Nat), L.length - i < k → i ≤ L.length → G_slices_Equal_string_string_L1 n L L k (i : Int) = some .x1
  | 0, i, h, _ => by omega
  | k + 1, i, h, hi => by
    rw [G_slices_Equal_string_string_L1]
    by_cases hlt : (i : Int) < (L.length : Int)
    · obtain ⟨y, hy⟩ := get_lt hlt
      rw [if_pos hlt, getI_nat, hy, Option.bind_some, Option.bind_some, if_neg (by simp), wi_succ (by omega), equal_loop n L hL k (i + 1) (by omega) (by omega)]
    · rw [if_neg hlt]
theorem equal_any (L : List ByteArray) (hL : L.length ≤ 100) : G_slices_Equal_string_string 200 L L = some true := by
  unfold G_slices_Equal_string_string
  have h := equal_loop 200 L hL 200 0 (by omega) (by omega)
  rw [show ((0 : Nat) : Int) = 0 from rfl] at h
  rw [if_pos rfl, h]; rfl
theorem pick (n : Nat) (a : Bool) (L : List ByteArray) (hL : L.length ≤ 100) (e : Int) : (G_ringlaw5_PathSplits_C1 200 (a, L, e) (a, L, e)).bind (fun o => match o with | .x0 z => some z) = some true := by
  unfold G_ringlaw5_PathSplits_C1
  rw [if_pos rfl, if_pos (by simp [eqRes]), equal_any L hL, Option.bind_some]; rfl
theorem law (s : ByteArray) : G_ringlaw5_PathSplits 200 s = some true := by
  obtain ⟨l, rfl⟩ : ∃ l, s = mk l := ⟨s.data.toList, by unfold mk; apply ByteArray.ext; simp⟩
  have fin : ∀ (a : Bool) (L : List ByteArray) (e : Int), L.length ≤ 100 → G_path_Split 200 (mk l) = some (a, L, e) → G_ringref5_SplitOf 200 (mk l) = some (a, L, e) → G_ringlaw5_PathSplits 200 (mk l) = some true := by
    intro a L e hL h1 h2
    unfold G_ringlaw5_PathSplits
    rw [h1, Option.bind_some, h2, Option.bind_some]
    exact pick 200 a L hL e
  by_cases h1 : ((mk l).size : Int) > 64
  · exact fin false [] 2 (by simp) (by unfold G_path_Split; rw [if_pos h1]) (by unfold G_ringref5_SplitOf; rw [if_pos h1])
  · have hl : l.length ≤ 64 := by rw [mk_size] at h1; omega
    by_cases h2 : (mk l).size = 0
    · exact fin false [] 3 (by simp) (by unfold G_path_Split; rw [if_neg h1, if_pos (by rw [empty_iff]; exact decide_eq_true h2)]) (by unfold G_ringref5_SplitOf; rw [if_neg h1, if_pos (by omega)])
    · obtain ⟨b, hb⟩ : ∃ b, getS (mk l) 0 = some b := by
        have hs : 0 < (mk l).size := by omega
        refine ⟨((mk l)[0].toNat : Int), ?_⟩
        unfold getS
        rw [if_pos (by omega)]
        simp only [Int.toNat_zero]
        have hq : (mk l)[0]? = some ((mk l)[0]'hs) := getElem?_pos (mk l) 0 hs
        rw [hq]
        rfl
      generalize hA : splitL l = A
      have hAl : A.length ≤ 65 := by rw [← hA, splitL_len]; have : l.count 47 ≤ l.length := List.count_le_length; omega
      have hf : G_strings_FieldsFunc 200 (mk l) (fun (y0 : Int) => G_ringref5_SplitOf_1 200 y0) = some ((A.map mk).filter some_) := by
        unfold G_strings_FieldsFunc
        rw [if_pos (by omega), fields_any _ (fun r => by
          show (G_ringref5_SplitOf_1 200 (r : Int)).getD false = _
          unfold G_ringref5_SplitOf_1
          rw [Option.getD_some]
          by_cases hr : r = 47
          · subst hr; rfl
          · rw [decide_eq_false hr]; simpa using (show ¬ (r : Int) = 47 by omega)) l, hA, List.filter_map]
        congr 2
        apply List.filter_congr
        intro x _
        simp only [Function.comp, some_, mk_size]
        cases x <;> simp
      have hp := prog_loop 200 (mk l) (A.map mk) (by simp; omega) 200 0 [] (by simp; omega) (by omega) (by simp)
      have hfl : ((A.map mk).filter some_).length ≤ 65 := Nat.le_trans (List.length_filter_le _ _) (by simpa using hAl)
      have hr := ref_loop 200 (mk l) ((A.map mk).filter some_) (by omega) 200 0 (by omega) (by omega)
      rw [show ((0 : Nat) : Int) = 0 from rfl, List.drop_zero, List.nil_append] at hp
      rw [show ((0 : Nat) : Int) = 0 from rfl, List.drop_zero] at hr
      have same : ((A.map mk).filter some_).any long = (A.map mk).any long := by
        rw [List.any_filter]
        congr 1
        funext y
        unfold some_ long
        by_cases hy : y.size > 14
        · rw [decide_eq_true hy, decide_eq_true (show y.size ≠ 0 by omega)]; rfl
        · rw [decide_eq_false hy, Bool.and_false]
      rw [same] at hr
      have e1 : G_path_Split 200 (mk l) = (G_path_Split_L1 200 (mk l) (A.map mk) 200 0 []).bind fun o => match o with | .x0 a b => some (a, [], b) | .x1 w => (getS (mk l) 0).bind fun (y : Int) => some ((y == 47), w, 0) := by
        unfold G_path_Split
        rw [if_neg h1, if_neg (by rw [empty_iff]; simpa using h2)]
        have := split_any 200 l hl (by omega)
        unfold sep at this
        rw [this, Option.bind_some, hA]
        rfl
      have e2 : G_ringref5_SplitOf 200 (mk l) = (G_ringref5_SplitOf_L1 200 (mk l) ((A.map mk).filter some_) 200 0).bind fun o => match o with | .x0 a b => some (a, [], b) | .x1 => (getS (mk l) 0).bind fun (y : Int) => some ((y == 47), (A.map mk).filter some_, 0) := by
        unfold G_ringref5_SplitOf
        rw [if_neg h1, if_neg (by omega), hf, Option.bind_some]
        rfl
      rw [hp] at e1
      rw [hr] at e2
      by_cases ha : (A.map mk).any long = true
      · rw [if_pos ha] at e1 e2
        exact fin _ _ _ (by simp) e1 e2
      · rw [if_neg ha] at e1 e2
        simp only [Option.bind_some, hb] at e1 e2
        exact fin _ _ _ (by omega) e1 e2
end Go.Proofs.YtkeikccopkjgiaaDoor.pathSplits
