/- ProcPlays: waiting, groups, questions. -/
import Derived.Test.YtjjjaakefnnbpaaLProc2
namespace Go.Proofs.Ytjjjaakefnnbpaa.pv
set_option linter.all false
open Go.RowKit help
namespace pp

def zomb (t : Tb) (p : Int) (k : Nat) : Bool := up t k && decide ((en t k).fparent = p) && decide ((en t k).fstate = 2)
def child (t : Tb) (p : Int) (k : Nat) : Bool := up t k && decide ((en t k).fparent = p)
theorem wait_loop (n : Nat) (t : Tb) (e p : Int) : ∀ (k i : Nat) (b : Bool), 17 - i < k → i ≤ 17 →
    G_proc_Table_Wait_h_L2 n p (e, t) k b (i : Int) = some (match (List.range' i (17 - i)).find? (zomb t p) with | some j => .x0 (j : Int) (en t j).fstatus 0 (upd t j ⟨0, 0, 0, 0⟩) | none => .x1 (b || (List.range' i (17 - i)).any (child t p)))
  | 0, i, b, h, _ => by omega
  | k + 1, i, b, h, hi => by
    rw [G_proc_Table_Wait_h_L2]
    by_cases h1 : i < 17
    · have c1 : G_proc_Table_Wait_h_C1 n p b (i : Int) (e, t) = some (.x0 (!child t p i)) := by
        unfold G_proc_Table_Wait_h_C1 child up
        simp only
        rw [if_pos ⟨by omega, by omega⟩, getT h1, Option.bind_some]
        by_cases h0 : (en t i).fstate = 0
        · rw [if_pos h0]; simp [h0]
        · rw [if_neg h0, if_pos ⟨by omega, by omega⟩, Option.bind_some]
          by_cases q : (en t i).fparent = p <;> simp [h0, q]
      rw [if_pos (by omega), c1, Option.bind_some, range_c h1, List.find?_cons, List.any_cons, wi_succ (by omega)]
      simp only
      by_cases hc : child t p i = true
      · rw [if_neg (by simp [hc]), if_pos ⟨by omega, by omega⟩, getT h1, Option.bind_some]
        by_cases h2 : (en t i).fstate = 2
        · have hz : zomb t p i = true := by
            unfold zomb
            unfold child at hc
            rw [hc, decide_eq_true h2]; rfl
          rw [if_pos h2, if_pos ⟨by omega, by omega⟩, Option.bind_some, if_pos ⟨by omega, by omega⟩, Option.bind_some, hz]
          rfl
        · have hz : zomb t p i = false := by
            unfold zomb
            rw [decide_eq_false h2, Bool.and_false]
          rw [if_neg h2, hz, wait_loop n t e p k (i + 1) true (by omega) (by omega), hc]
          simp
      · have hc' : child t p i = false := by simpa using hc
        have hz : zomb t p i = false := by
          unfold zomb
          unfold child at hc'
          rw [hc', Bool.false_and]
        rw [if_pos (by simp [hc']), hz, wait_loop n t e p k (i + 1) b (by omega) (by omega), hc']
        simp
    · have : 17 - i = 0 := by omega
      rw [if_neg (by omega), this]
      simp
def zq (p : Int) (x : Pr) : Bool := decide (x.fUp = p) && x.fEnded
theorem waitedA (n : Nat) (hn : 60 < n) (p : Int) (P S : List Pr) (x : Pr) (hl : (P ++ x :: S).length ≤ 100) (hx : zq p x = true) (hP : ∀ y ∈ P, zq p y = false) : ∀ (k i : Nat) (e : Int), P.length - i < k → i ≤ P.length →
    G_ringref5_Procs_Waited_h_L1 n p (P ++ x :: S) k e (i : Int) (P ++ x :: S) = some (.x0 x.fId x.fStatus 0 (P ++ S))
  | 0, i, e, h, _ => by omega
  | k + 1, i, e, h, hi => by
    rw [G_ringref5_Procs_Waited_h_L1]
    have hlen : (P ++ x :: S).length = P.length + (S.length + 1) := by simp
    rw [if_pos (by omega), if_pos ⟨by omega, by rw [Int.toNat_natCast]; omega⟩, Int.toNat_natCast]
    by_cases h1 : i < P.length
    · rw [List.getElem?_append_left h1, List.getElem?_eq_getElem h1, Option.bind_some, wi_succ (by omega)]
      have hy := hP P[i] (List.getElem_mem h1)
      by_cases q : P[i].fUp = p
      · have : P[i].fEnded = false := by simpa [zq, q] using hy
        rw [if_pos q, this]
        exact waitedA n hn p P S x hl hx hP k (i + 1) 9 (by omega) (by omega)
      · rw [if_neg q]
        exact waitedA n hn p P S x hl hx hP k (i + 1) e (by omega) (by omega)
    · have hi2 : i = P.length := by omega
      have hx2 : x.fUp = p ∧ x.fEnded = true := by simpa [zq] using hx
      have hg : (P ++ x :: S)[i]? = some x := by subst hi2; simp
      rw [hg, Option.bind_some, if_pos hx2.1, if_pos hx2.2]
      unfold G_slices_Clone_ringref5_Procs_ringref5_Proc
      rw [app_arg (by omega) (by omega), Option.bind_some, wi_succ (by omega), G_slices_Delete_ringref5_Procs_ringref5_Proc_h_sp (by omega) (by omega), Option.bind_some]
      have e1 : (P ++ x :: S).take i = P := by subst hi2; simp
      have e2 : (P ++ x :: S).drop (i + 1) = S := by
        subst hi2
        rw [show P ++ x :: S = (P ++ [x]) ++ S by simp]
        exact List.drop_left' (by simp)
      rw [e1, e2]
theorem waitedB (n : Nat) (p : Int) (L : List Pr) (hl : L.length ≤ 100) (hL : ∀ y ∈ L, zq p y = false) : ∀ (k i : Nat) (e : Int), L.length - i < k → i ≤ L.length →
    G_ringref5_Procs_Waited_h_L1 n p L k e (i : Int) L = some (.x1 (if (L.drop i).any (fun x => decide (x.fUp = p)) then 9 else e) L)
  | 0, i, e, h, _ => by omega
  | k + 1, i, e, h, hi => by
    rw [G_ringref5_Procs_Waited_h_L1]
    by_cases h1 : i < L.length
    · rw [if_pos (by omega), if_pos ⟨by omega, by simpa using h1⟩, Int.toNat_natCast, List.getElem?_eq_getElem h1, Option.bind_some, wi_succ (by omega), List.drop_eq_getElem_cons h1, List.any_cons]
      have hy := hL L[i] (List.getElem_mem h1)
      by_cases q : L[i].fUp = p
      · have : L[i].fEnded = false := by simpa [zq, q] using hy
        have ih := waitedB n p L hl hL k (i + 1) 9 (by omega) (by omega)
        rw [if_pos q, this, ih]
        simp [q]
      · have ih := waitedB n p L hl hL k (i + 1) e (by omega) (by omega)
        rw [if_neg q, ih]
        simp [q]
    · rw [if_neg (by omega), List.drop_eq_nil_of_le (by omega)]
      simp
theorem find_pre {α : Type} {q : Nat → Bool} {a m j : Nat} (h : (List.range' a m).find? q = some j) : ∀ k, a ≤ k → k < j → q k = false := by
  induction m generalizing a with
  | zero => simp at h
  | succ m ih =>
    rw [List.range'_succ, List.find?_cons] at h
    intro k h1 h2
    cases hq : q a with
    | true =>
      rw [hq] at h
      simp at h
      omega
    | false =>
      rw [hq] at h
      by_cases e : k = a
      · rw [e]; exact hq
      · exact ih h k (by omega) h2
theorem wait_any (n : Nat) (hn : 60 < n) (t : Tb) (p : Int) (hi : Inv t) (he : err t p = 0) :
    ∃ (a b c : Int) (t' : Tb), G_proc_Table_Wait_h n t p = some (a, b, c, t') ∧ G_ringref5_Procs_Waited_h n (procs t) p = some (procs t', a, b, c) ∧ Inv t' := by
  have hl := procs_len t
  unfold G_proc_Table_Wait_h G_ringref5_Procs_Waited_h
  have w1 := wait_loop n t 0 p n 0 false (by omega) (by omega)
  have w1 : G_proc_Table_Wait_h_L2 n p (0, t) n false 0 = _ := w1
  rw [err_tab, he, Option.bind_some]
  simp only [if_true]
  rw [w1, Option.bind_some]
  have hmk : ∀ k, zq p (mkp t k) = (decide ((en t k).fparent = p) && decide ((en t k).fstate = 2)) := fun k => rfl
  cases hf : (List.range' 0 (17 - 0)).find? (zomb t p) with
  | some j =>
    have hm := List.mem_of_find?_eq_some hf
    have hd := List.find?_some hf
    rw [List.mem_range'_1] at hm
    have hz : up t j = true ∧ (en t j).fparent = p ∧ (en t j).fstate = 2 := by
      simpa [zomb, and_assoc] using hd
    have h0 : 1 ≤ j := by
      rcases Nat.eq_zero_or_pos j with q | q
      · subst q; have := hi.z; omega
      · exact q
    have hs := split_up t j h0 (by omega) hz.1
    have hA := waitedA n hn p (part t 1 (j - 1)) (part t (j + 1) (16 - j)) (mkp t j) (by rw [← hs]; omega) (by rw [hmk]; simp [hz.2.1, hz.2.2]) (fun y hy => by
      obtain ⟨k, k1, k2, k3, rfl⟩ := part_mem.1 hy
      have := find_pre (α := Nat) hf k (by omega) (by omega)
      rw [hmk]
      simpa [zomb, k3] using this) n 0 4 (by have := part_len t 1 (j - 1); omega) (by omega)
    rw [← hs] at hA
    have hA : G_ringref5_Procs_Waited_h_L1 n p (procs t) n 4 0 (procs t) = _ := hA
    rw [hA, Option.bind_some]
    refine ⟨_, _, _, upd t j ⟨0, 0, 0, 0⟩, rfl, ?_, ?_⟩
    · rw [procs_del t j ⟨0, 0, 0, 0⟩ h0 (by omega) rfl]
      rfl
    · exact inv_upd hi j _ h0 (by omega) (.inl rfl) (fun q => by subst q; have := hi.one; omega)
  | none =>
    rw [List.find?_eq_none] at hf
    have hB := waitedB n p (procs t) (by omega) (fun y hy => by
      obtain ⟨k, k1, k2, k3, rfl⟩ := part_mem.1 hy
      have := hf k (by rw [List.mem_range'_1]; omega)
      rw [hmk]
      simpa [zomb, k3] using this) n 0 4 (by omega) (by omega)
    have hB : G_ringref5_Procs_Waited_h_L1 n p (procs t) n 4 0 (procs t) = _ := hB
    have hany : (List.range' 0 (17 - 0)).any (child t p) = (procs t).any (fun x => decide (x.fUp = p)) := by
      rw [Bool.eq_iff_iff, List.any_eq_true, List.any_eq_true]
      constructor
      · rintro ⟨k, hk, hc⟩
        rw [List.mem_range'_1] at hk
        have hc' : up t k = true ∧ (en t k).fparent = p := by simpa [child] using hc
        have h0 : 1 ≤ k := by
          rcases Nat.eq_zero_or_pos k with q | q
          · subst q
            have := hi.z
            have := hc'.1
            simp [up, hi.z] at this
          · exact q
        exact ⟨mkp t k, part_mem.2 ⟨k, h0, by omega, hc'.1, rfl⟩, by simp [mkp, hc'.2]⟩
      · rintro ⟨x, hx, hc⟩
        obtain ⟨k, k1, k2, k3, rfl⟩ := part_mem.1 hx
        have hc' : (en t k).fparent = p := of_decide_eq_true hc
        exact ⟨k, by rw [List.mem_range'_1]; omega, by simp [child, k3, hc']⟩
    rw [hB, Option.bind_some, hany, List.drop_zero]
    simp only [Bool.false_or]
    cases (procs t).any (fun x => decide (x.fUp = p)) with
    | true => exact ⟨0, 0, 9, t, rfl, rfl, hi⟩
    | false => exact ⟨0, 0, 4, t, rfl, rfl, hi⟩
/-! lists of numbers -/
theorem living_loop (n : Nat) (f : Pr → Option Bool) (q : Pr → Bool) (L : List Pr) (hl : L.length ≤ 100) (hf : ∀ x, f x = some (q x)) : ∀ (k i : Nat) (acc : List Int), L.length - i < k → i ≤ L.length → acc.length ≤ i →
    G_ringref5_Procs_Living_h_L2 n f L k (i : Int) L acc = some (.x0 L (acc ++ ((L.drop i).filter (fun x => !x.fEnded && q x)).map (fun x => x.fId)))
  | 0, i, acc, h, _, _ => by omega
  | k + 1, i, acc, h, hi, ha => by
    rw [G_ringref5_Procs_Living_h_L2]
    by_cases h1 : i < L.length
    · have c1 : G_ringref5_Procs_Living_h_C1 n f L (i : Int) L acc = some (.x0 L (if (!L[i].fEnded && q L[i]) = true then acc ++ [L[i].fId] else acc)) := by
        unfold G_ringref5_Procs_Living_h_C1
        rw [if_pos ⟨by omega, by simpa using h1⟩, Int.toNat_natCast, List.getElem?_eq_getElem h1, Option.bind_some]
        by_cases h2 : L[i].fEnded = true
        · rw [if_pos h2]; simp [h2]
        · rw [if_neg h2, hf, Option.bind_some]
          by_cases h3 : q L[i] = true
          · rw [if_pos h3, app_some (by simp; omega) (by omega), Option.bind_some]; simp [h2, h3]
          · rw [if_neg h3]; simp [h3]
      rw [if_pos (by omega), c1, Option.bind_some, wi_succ (by omega), List.drop_eq_getElem_cons h1, List.filter_cons]
      simp only
      by_cases h4 : (!L[i].fEnded && q L[i]) = true
      · rw [if_pos h4, if_pos h4, living_loop n f q L hl hf k (i + 1) _ (by omega) (by omega) (by simp; omega)]
        simp
      · rw [if_neg h4, if_neg h4, living_loop n f q L hl hf k (i + 1) _ (by omega) (by omega) (by omega)]
    · rw [if_neg (by omega), List.drop_eq_nil_of_le (by omega)]
      simp
theorem living_any (n : Nat) (hn : 110 < n) (f : Pr → Option Bool) (q : Pr → Bool) (L : List Pr) (hl : L.length ≤ 100) (hf : ∀ x, f x = some (q x)) :
    G_ringref5_Procs_Living_h n L f = some ((L.filter (fun x => !x.fEnded && q x)).map (fun x => x.fId), L) := by
  unfold G_ringref5_Procs_Living_h
  have h := living_loop n f q L hl hf n 0 [] (by omega) (by omega) (by simp)
  have h : G_ringref5_Procs_Living_h_L2 n f L n 0 L [] = _ := h
  rw [h, Option.bind_some]
  simp
def ids (q : Nat → Bool) : List Int := ((List.range' 0 17).filter q).map (fun k : Nat => (k : Int))
theorem ids_procs (t : Tb) (P : Pr → Bool) (q : Nat → Bool) (h0 : q 0 = false) (h : ∀ k, 1 ≤ k → k ≤ 16 → q k = (up t k && P (mkp t k))) : ((procs t).filter P).map (fun x => x.fId) = ids q := by
  unfold procs part ids
  rw [List.filter_map, List.map_map, List.filter_filter]
  have e : List.range' 0 17 = 0 :: List.range' 1 16 := rfl
  rw [e, List.filter_cons, h0]
  simp only [Bool.false_eq_true, if_false]
  have e2 : (List.range' 1 16).filter q = (List.range' 1 16).filter (fun k => (P ∘ mkp t) k && up t k) := List.filter_congr (fun k hk => by
    rw [List.mem_range'_1] at hk
    rw [h k hk.1 (by omega), Bool.and_comm]; rfl)
  rw [e2]
  rfl
theorem ids_tail (q : Nat → Bool) (i : Nat) (hi : i < 17) : ((List.range' i (17 - i)).filter q).map (fun k : Nat => (k : Int)) = (if q i = true then [(i : Int)] else []) ++ ((List.range' (i + 1) (17 - (i + 1))).filter q).map (fun k : Nat => (k : Int)) := by
  rw [range_c hi, List.filter_cons]
  by_cases h : q i = true
  · rw [if_pos h, if_pos h]; rfl
  · rw [if_neg h, if_neg h]; rfl
theorem all_loop (n : Nat) (t : Tb) : ∀ (k i : Nat) (acc : List Int), 17 - i < k → i ≤ 17 → acc.length ≤ i →
    G_proc_Table_All_h_L1 n t k (i : Int) acc = some (.x0 (acc ++ ((List.range' i (17 - i)).filter (fun k => decide ((en t k).fstate = 1))).map (fun k : Nat => (k : Int))))
  | 0, i, acc, h, _, _ => by omega
  | k + 1, i, acc, h, hi, ha => by
    rw [G_proc_Table_All_h_L1]
    by_cases h1 : i < 17
    · rw [if_pos (by omega), getT h1, Option.bind_some, ids_tail _ i h1, wi_succ (by omega)]
      by_cases q : (en t i).fstate = 1
      · rw [if_pos q, app_some (by simp; omega) (by omega), Option.bind_some, all_loop n t k (i + 1) _ (by omega) (by omega) (by simp; omega)]
        simp [q]
      · rw [if_neg q, all_loop n t k (i + 1) _ (by omega) (by omega) (by omega)]
        simp [q]
    · have : 17 - i = 0 := by omega
      rw [if_neg (by omega), this]
      simp
theorem all_any (n : Nat) (hn : 60 < n) (t : Tb) : G_proc_Table_All_h n t = some (ids (fun k => decide ((en t k).fstate = 1)), t) := by
  unfold G_proc_Table_All_h
  have h := all_loop n t n 0 [] (by omega) (by omega) (by simp)
  have h : G_proc_Table_All_h_L1 n t n 0 [] = _ := h
  rw [h, Option.bind_some]
  simp [ids]
theorem of_loop (n : Nat) (t : Tb) (g : Int) : ∀ (k i : Nat) (acc : List Int), 17 - i < k → i ≤ 17 → acc.length ≤ i →
    G_proc_Table_Of_h_L2 n g t k (i : Int) acc = some (.x0 (acc ++ ((List.range' i (17 - i)).filter (fun k => decide ((en t k).fstate = 1) && decide ((en t k).fgroup = g))).map (fun k : Nat => (k : Int))))
  | 0, i, acc, h, _, _ => by omega
  | k + 1, i, acc, h, hi, ha => by
    rw [G_proc_Table_Of_h_L2]
    by_cases h1 : i < 17
    · have c1 : G_proc_Table_Of_h_C1 n g t (i : Int) acc = some (.x0 (if (decide ((en t i).fstate = 1) && decide ((en t i).fgroup = g)) = true then acc ++ [(i : Int)] else acc)) := by
        unfold G_proc_Table_Of_h_C1
        rw [getT h1, Option.bind_some]
        by_cases q : (en t i).fstate = 1
        · rw [if_pos q]
          by_cases q2 : (en t i).fgroup = g
          · rw [if_pos q2, app_some (by simp; omega) (by omega), Option.bind_some]; simp [q, q2]
          · rw [if_neg q2]; simp [q, q2]
        · rw [if_neg q]; simp [q]
      rw [if_pos (by omega), c1, Option.bind_some, ids_tail _ i h1, wi_succ (by omega)]
      simp only
      by_cases q : (decide ((en t i).fstate = 1) && decide ((en t i).fgroup = g)) = true
      · rw [if_pos q, if_pos q, of_loop n t g k (i + 1) _ (by omega) (by omega) (by simp; omega)]
        simp
      · rw [if_neg q, if_neg q, of_loop n t g k (i + 1) _ (by omega) (by omega) (by omega)]
        simp
    · have : 17 - i = 0 := by omega
      rw [if_neg (by omega), this]
      simp
theorem of_any (n : Nat) (hn : 60 < n) (t : Tb) (g : Int) : G_proc_Table_Of_h n t g = some (ids (fun k => decide ((en t k).fstate = 1) && decide ((en t k).fgroup = g)), t) := by
  unfold G_proc_Table_Of_h
  have h := of_loop n t g n 0 [] (by omega) (by omega) (by simp)
  have h : G_proc_Table_Of_h_L2 n g t n 0 [] = _ := h
  rw [h, Option.bind_some]
  simp [ids]
theorem kids_loop (n : Nat) (t : Tb) (p : Int) : ∀ (k i : Nat) (acc : List Int), 17 - i < k → i ≤ 17 → acc.length ≤ i →
    G_proc_Table_Kids_h_L2 n p t k (i : Int) acc = some (.x0 (acc ++ ((List.range' i (17 - i)).filter (fun k => child t p k && decide (p > 0))).map (fun k : Nat => (k : Int))))
  | 0, i, acc, h, _, _ => by omega
  | k + 1, i, acc, h, hi, ha => by
    rw [G_proc_Table_Kids_h_L2]
    by_cases h1 : i < 17
    · have c1 : G_proc_Table_Kids_h_C1 n p (i : Int) t acc (en t i) = some (.x0 (child t p i && decide (p > 0)) acc) := by
        unfold G_proc_Table_Kids_h_C1 child up
        by_cases q : (en t i).fstate = 0
        · rw [if_pos q]; simp [q]
        · rw [if_neg q]
          by_cases q2 : (en t i).fparent = p
          · rw [if_pos q2]; simp [q, q2]
          · rw [if_neg q2]; simp [q, q2]
      rw [if_pos (by omega), getT h1, Option.bind_some, c1, Option.bind_some, ids_tail _ i h1, wi_succ (by omega)]
      simp only
      by_cases q : (child t p i && decide (p > 0)) = true
      · rw [if_pos q, if_pos q, app_some (by simp; omega) (by omega), Option.bind_some, kids_loop n t p k (i + 1) _ (by omega) (by omega) (by simp; omega)]
        simp
      · rw [if_neg q, if_neg q, kids_loop n t p k (i + 1) _ (by omega) (by omega) (by omega)]
        simp
    · have : 17 - i = 0 := by omega
      rw [if_neg (by omega), this]
      simp
theorem kids_any (n : Nat) (hn : 60 < n) (t : Tb) (p : Int) : G_proc_Table_Kids_h n t p = some (ids (fun k => child t p k && decide (p > 0)), t) := by
  unfold G_proc_Table_Kids_h
  have h := kids_loop n t p n 0 [] (by omega) (by omega) (by simp)
  have h : G_proc_Table_Kids_h_L2 n p t n 0 [] = _ := h
  rw [h, Option.bind_some]
  simp [ids]
end pp
end Go.Proofs.Ytjjjaakefnnbpaa.pv
