/- What the library's functions compute, in words of plain lists: written by specs.py. -/
import Derived.Test.YtpeakaeblibfmaaGuTlbTells
import Derived.Test.YtpeakaeblibfmaaLib
namespace Go.Proofs.Ytpeakaeblibfmaa.pv
set_option linter.all false
open Go.RowKit help

theorem G_slices_IndexFunc_tlb_Line_tlb_Line_sl (n : Nat) (l : List S_tlb_Line) (f : S_tlb_Line → Option Bool) (p : S_tlb_Line → Bool) (hf : ∀ y ∈ l, f y = some (p y)) (hl : l.length < 4611686018427387903) : ∀ (k i : Nat), l.length - i < k → i ≤ l.length → G_slices_IndexFunc_tlb_Line_tlb_Line_L1 n l f k (i : Int) = some (match (l.drop i).findIdx? p with | some j => .x0 ((i + j : Nat) : Int) | none => .x1)
  | 0, i, h, _ => by omega
  | k + 1, i, h, hi => by
    rw [G_slices_IndexFunc_tlb_Line_tlb_Line_L1]
    by_cases hlt : (i : Int) < (l.length : Int)
    · obtain ⟨x, hx⟩ := get_lt hlt
      rw [if_pos hlt, getI_nat, hx, Option.bind_some, hf x (List.mem_of_getElem? hx), Option.bind_some, drop_cons hx, List.findIdx?_cons]
      cases hp : p x with
      | true => simp
      | false =>
        simp only [Bool.false_eq_true, if_false]
        rw [wi_succ (by omega), G_slices_IndexFunc_tlb_Line_tlb_Line_sl n l f p hf hl k (i + 1) (by omega) (by omega)]
        cases (l.drop (i + 1)).findIdx? p with
        | none => simp
        | some j => simp; omega
    · rw [if_neg hlt, drop_end hlt]; rfl
theorem G_slices_IndexFunc_tlb_Line_tlb_Line_sp {n : Nat} {l : List S_tlb_Line} {f : S_tlb_Line → Option Bool} (p : S_tlb_Line → Bool) (hf : ∀ y ∈ l, f y = some (p y)) (hl : l.length < 4611686018427387903) (hn : l.length < n) : G_slices_IndexFunc_tlb_Line_tlb_Line n l f = some (findI p l) := by
  unfold G_slices_IndexFunc_tlb_Line_tlb_Line
  have h := G_slices_IndexFunc_tlb_Line_tlb_Line_sl n l f p hf hl n 0 (by omega) (by omega)
  have h : G_slices_IndexFunc_tlb_Line_tlb_Line_L1 n l f n 0 = _ := h
  rw [h, Option.bind_some, List.drop_zero, findI]
  cases l.findIdx? p <;> simp
theorem G_slices_Delete_tlb_Order_tlb_Order_h_sp {n i j : Nat} {l : List S_tlb_Order} (hij : i ≤ j) (hj : j ≤ l.length) : G_slices_Delete_tlb_Order_tlb_Order_h n l (i : Int) (j : Int) = some (l.take i ++ l.drop j) := by
  unfold G_slices_Delete_tlb_Order_tlb_Order_h
  rw [if_pos (by omega)]
  by_cases e : (i : Int) = (j : Int)
  · rw [if_pos e]
    have e : i = j := by omega
    subst e; simp
  · rw [if_neg e]
    simp only [Int.toNat_natCast]
    have hd : (delR l i j l.length).length = l.length := delR_len hij hj
    rw [if_pos (by omega), if_pos (by omega), if_pos (by omega), hd, if_pos (by omega), if_pos (by omega), if_pos (by rw [clrR_len (by omega) (by rw [hd]; omega), hd]; omega)]
    rw [cut_take hij hj]
theorem G_slices_IndexFunc_tlb_Cpu_tlb_Cpu_sl (n : Nat) (l : List S_tlb_Cpu) (f : S_tlb_Cpu → Option Bool) (p : S_tlb_Cpu → Bool) (hf : ∀ y ∈ l, f y = some (p y)) (hl : l.length < 4611686018427387903) : ∀ (k i : Nat), l.length - i < k → i ≤ l.length → G_slices_IndexFunc_tlb_Cpu_tlb_Cpu_L1 n l f k (i : Int) = some (match (l.drop i).findIdx? p with | some j => .x0 ((i + j : Nat) : Int) | none => .x1)
  | 0, i, h, _ => by omega
  | k + 1, i, h, hi => by
    rw [G_slices_IndexFunc_tlb_Cpu_tlb_Cpu_L1]
    by_cases hlt : (i : Int) < (l.length : Int)
    · obtain ⟨x, hx⟩ := get_lt hlt
      rw [if_pos hlt, getI_nat, hx, Option.bind_some, hf x (List.mem_of_getElem? hx), Option.bind_some, drop_cons hx, List.findIdx?_cons]
      cases hp : p x with
      | true => simp
      | false =>
        simp only [Bool.false_eq_true, if_false]
        rw [wi_succ (by omega), G_slices_IndexFunc_tlb_Cpu_tlb_Cpu_sl n l f p hf hl k (i + 1) (by omega) (by omega)]
        cases (l.drop (i + 1)).findIdx? p with
        | none => simp
        | some j => simp; omega
    · rw [if_neg hlt, drop_end hlt]; rfl
theorem G_slices_IndexFunc_tlb_Cpu_tlb_Cpu_sp {n : Nat} {l : List S_tlb_Cpu} {f : S_tlb_Cpu → Option Bool} (p : S_tlb_Cpu → Bool) (hf : ∀ y ∈ l, f y = some (p y)) (hl : l.length < 4611686018427387903) (hn : l.length < n) : G_slices_IndexFunc_tlb_Cpu_tlb_Cpu n l f = some (findI p l) := by
  unfold G_slices_IndexFunc_tlb_Cpu_tlb_Cpu
  have h := G_slices_IndexFunc_tlb_Cpu_tlb_Cpu_sl n l f p hf hl n 0 (by omega) (by omega)
  have h : G_slices_IndexFunc_tlb_Cpu_tlb_Cpu_L1 n l f n 0 = _ := h
  rw [h, Option.bind_some, List.drop_zero, findI]
  cases l.findIdx? p <;> simp
theorem G_slices_ContainsFunc_tlb_Cpu_tlb_Cpu_sp {n : Nat} {l : List S_tlb_Cpu} {f : S_tlb_Cpu → Option Bool} (p : S_tlb_Cpu → Bool) (hf : ∀ y ∈ l, f y = some (p y)) (hl : l.length < 4611686018427387903) (hn : l.length < n) : G_slices_ContainsFunc_tlb_Cpu_tlb_Cpu n l f = some (l.any p) := by
  unfold G_slices_ContainsFunc_tlb_Cpu_tlb_Cpu
  rw [G_slices_IndexFunc_tlb_Cpu_tlb_Cpu_sp p (fun y hy => by first | exact hf y hy | simp [hf y hy]) hl hn]
  simp [findI_nn]
theorem eqS_tlb_Order_iff (x y : S_tlb_Order) : eqS_tlb_Order x y = true ↔ x = y := by cases x; cases y; simp [eqS_tlb_Order]
theorem G_slices_Index_tlb_Order_tlb_Order_sl (n : Nat) (l : List S_tlb_Order) (v : S_tlb_Order) (hl : l.length < 4611686018427387903) : ∀ (k i : Nat), l.length - i < k → i ≤ l.length → ∃ o, G_slices_Index_tlb_Order_tlb_Order_L1 n l v k (i : Int) = some o ∧ (match o with | .x0 j => ∃ q : Nat, j = ((i + q : Nat) : Int) ∧ (l.drop i)[q]? = some v ∧ ∀ r, r < q → (l.drop i)[r]? ≠ some v | .x1 => v ∉ l.drop i)
  | 0, i, h, _ => by omega
  | k + 1, i, h, hi => by
    rw [G_slices_Index_tlb_Order_tlb_Order_L1]
    by_cases hlt : (i : Int) < (l.length : Int)
    · obtain ⟨x, hx⟩ := get_lt hlt
      rw [if_pos hlt, getI_nat, hx, Option.bind_some, drop_cons hx]
      by_cases e : v = x
      · rw [if_pos (by subst e; simp [eqRes, eqS_tlb_Order_iff])]
        exact ⟨_, rfl, 0, by simp, by simp [e], by omega⟩
      · rw [if_neg (by simpa [eqRes, eqS_tlb_Order_iff] using e), wi_succ (by omega)]
        obtain ⟨o, h1, h2⟩ := G_slices_Index_tlb_Order_tlb_Order_sl n l v hl k (i + 1) (by omega) (by omega)
        refine ⟨o, h1, ?_⟩
        cases o with
        | x0 j =>
          obtain ⟨q, q1, q2, q3⟩ := h2
          refine ⟨q + 1, by rw [q1]; congr 1; omega, by simpa using q2, fun r hr => ?_⟩
          cases r with
          | zero => simpa using fun h => e h.symm
          | succ r => simpa using q3 r (by omega)
        | x1 => simpa [e] using h2
    · rw [if_neg hlt, drop_end hlt]
      exact ⟨_, rfl, by simp⟩
theorem G_slices_Index_tlb_Order_tlb_Order_sp {n : Nat} {l : List S_tlb_Order} (v : S_tlb_Order) (hl : l.length < 4611686018427387903) (hn : l.length < n) : (v ∉ l ∧ G_slices_Index_tlb_Order_tlb_Order n l v = some (-1)) ∨ ∃ q : Nat, G_slices_Index_tlb_Order_tlb_Order n l v = some (q : Int) ∧ l[q]? = some v ∧ ∀ r, r < q → l[r]? ≠ some v := by
  unfold G_slices_Index_tlb_Order_tlb_Order
  obtain ⟨o, h1, h2⟩ := G_slices_Index_tlb_Order_tlb_Order_sl n l v hl n 0 (by omega) (by omega)
  have h1 : G_slices_Index_tlb_Order_tlb_Order_L1 n l v n 0 = _ := h1
  rw [h1, Option.bind_some]
  cases o with
  | x0 j =>
    obtain ⟨q, rfl, q2, q3⟩ := h2
    refine .inr ⟨q, by simp, by simpa using q2, fun r hr => by simpa using q3 r hr⟩
  | x1 => exact .inl ⟨by simpa using h2, rfl⟩
theorem G_slices_Contains_tlb_Order_tlb_Order_sp {n : Nat} {l : List S_tlb_Order} (v : S_tlb_Order) (hl : l.length < 4611686018427387903) (hn : l.length < n) : ∃ r, G_slices_Contains_tlb_Order_tlb_Order n l v = some r ∧ (r = true ↔ v ∈ l) := by
  unfold G_slices_Contains_tlb_Order_tlb_Order
  rcases G_slices_Index_tlb_Order_tlb_Order_sp (n := n) v hl hn with ⟨h1, h2⟩ | ⟨q, h1, h2, _⟩
  · rw [h2]; exact ⟨_, rfl, by simpa using h1⟩
  · rw [h1]; exact ⟨_, rfl, by simpa using List.mem_of_getElem? h2⟩
theorem G_slices_DeleteFunc_tlb_Line_tlb_Line_h_dl (n : Nat) (f : S_tlb_Line → Option Bool) (p : S_tlb_Line → Bool) (xs : List S_tlb_Line) (hf : ∀ y ∈ xs, f y = some (p y)) (hl : xs.length < 1000000) : ∀ (k i j : Nat) (w : List S_tlb_Line), xs.length - j < k → i ≤ j → j ≤ xs.length → w.length = xs.length → w.drop j = xs.drop j → w.take i = (xs.take j).filter (fun y => !p y) →
    ∃ (i' : Nat) (w' : List S_tlb_Line), G_slices_DeleteFunc_tlb_Line_tlb_Line_h_L1 n f k (i : Int) (j : Int) w = some (.x0 (i' : Int) w') ∧ i' ≤ w'.length ∧ w'.length = xs.length ∧ w'.take i' = xs.filter (fun y => !p y)
  | 0, i, j, w, h, _, _, _, _, _ => by omega
  | k + 1, i, j, w, h, hij, hj, hw, hd, ht => by
    rw [G_slices_DeleteFunc_tlb_Line_tlb_Line_h_L1]
    by_cases h1 : j < xs.length
    · have hjw : j < w.length := by omega
      have hyx : xs[j]? = some xs[j] := List.getElem?_eq_getElem h1
      have hy : w[j]? = some xs[j] := by
        have e := congrArg (fun l : List S_tlb_Line => l[0]?) hd
        simp only [List.getElem?_drop, Nat.add_zero] at e
        rw [e, hyx]
      rw [if_pos (by omega), if_pos ⟨by omega, by simpa using hjw⟩, Int.toNat_natCast, hy, Option.bind_some, hf _ (List.getElem_mem h1), Option.bind_some, wi_succ (i := j) (by omega)]
      have hdrop : w.drop (j + 1) = xs.drop (j + 1) := by
        have e := congrArg (List.drop 1) hd
        simpa [List.drop_drop] using e
      have htk : xs.take (j + 1) = xs.take j ++ [xs[j]] := List.take_succ_eq_append_getElem h1
      by_cases h2 : p xs[j] = true
      · rw [if_pos h2]
        exact G_slices_DeleteFunc_tlb_Line_tlb_Line_h_dl n f p xs hf hl k i (j + 1) w (by omega) (by omega) (by omega) hw hdrop (by rw [htk, List.filter_append, ht]; simp [h2])
      · have hiw : i < w.length := by omega
        rw [if_neg h2, if_pos ⟨by omega, by simpa using hiw⟩, Int.toNat_natCast, List.getElem?_eq_getElem hiw, Option.bind_some, wi_succ (i := i) (by omega)]
        refine G_slices_DeleteFunc_tlb_Line_tlb_Line_h_dl n f p xs hf hl k (i + 1) (j + 1) _ (by omega) (by omega) (by omega) (by simpa using hw) ?_ ?_
        · rw [List.drop_set_of_lt (by omega), hdrop]
        · have hi2 : i < (w.set i xs[j]).length := by simpa using hiw
          rw [List.take_succ_eq_append_getElem hi2, List.take_set_of_le (Nat.le_refl i), ht, htk, List.filter_append, List.getElem_set_self]
          simp [h2]
    · rw [if_neg (by omega)]
      have e : xs.take j = xs := List.take_of_length_le (by omega)
      rw [e] at ht
      exact ⟨i, w, rfl, by omega, hw, ht⟩
/-- slices.DeleteFunc takes out what the function says -/
theorem G_slices_DeleteFunc_tlb_Line_tlb_Line_h_sp (n : Nat) (f : S_tlb_Line → Option Bool) (p : S_tlb_Line → Bool) (xs : List S_tlb_Line) (hf : ∀ y ∈ xs, f y = some (p y)) (hl : xs.length < 1000000) (hn : xs.length < n) : G_slices_DeleteFunc_tlb_Line_tlb_Line_h n xs f = some (xs.filter (fun y => !p y)) := by
  unfold G_slices_DeleteFunc_tlb_Line_tlb_Line_h
  rw [G_slices_IndexFunc_tlb_Line_tlb_Line_sp p hf (by omega) hn, Option.bind_some]
  rcases findI_cases p xs with ⟨h1, h2⟩ | ⟨j, x, h1, h2, h3, h4⟩
  · rw [h1, if_pos rfl]
    congr 1
    symm
    rw [List.filter_eq_self]
    intro a ha
    simp [h2 a ha]
  · obtain ⟨hj, rfl⟩ := List.getElem?_eq_some_iff.1 h2
    rw [h1, if_neg (by omega), wi_succ (i := j) (by omega)]
    have hpre : xs.take j = (xs.take j).filter (fun y => !p y) := by
      symm
      rw [List.filter_eq_self]
      intro a ha
      obtain ⟨i, hi, rfl⟩ := List.mem_take_iff_getElem.1 ha
      have := h4 i xs[i] (by omega) (List.getElem?_eq_getElem (by omega))
      simp [this]
    obtain ⟨i', w', q1, q2, q3, q4⟩ := G_slices_DeleteFunc_tlb_Line_tlb_Line_h_dl n f p xs hf hl n j (j + 1) xs (by omega) (by omega) (by omega) rfl rfl (by rw [List.take_succ_eq_append_getElem hj, List.filter_append, ← hpre]; simp [h3])
    rw [q1, Option.bind_some]
    simp only []
    rw [if_pos ⟨by omega, by omega⟩, if_pos ⟨by omega, by omega⟩]
    have hs : sub (clrR w' ((i' : Nat) : Int).toNat w'.length (S_tlb_Line.mk 0 0 0)) 0 (i' : Int) = some (w'.take i') := by
      unfold sub
      rw [Int.toNat_natCast, if_pos ⟨by omega, by omega, by rw [clrR_len q2 (Nat.le_refl _)]; omega⟩]
      congr 1
      unfold clrR
      rw [show (0 : Int).toNat = 0 from rfl, List.drop_zero, List.append_assoc]
      exact List.take_left' (by simp; omega)
    rw [hs, q4]; rfl
end Go.Proofs.Ytpeakaeblibfmaa.pv
