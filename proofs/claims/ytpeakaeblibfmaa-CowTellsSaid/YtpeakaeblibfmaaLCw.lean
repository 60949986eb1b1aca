/- The plain law of CowTells, first part: what is wrong with a room. -/
import Derived.Test.YtpeakaeblibfmaaSpCw
import Derived.Test.YtpeakaeblibfmaaSr
namespace Go.Proofs.Ytpeakaeblibfmaa.cowTells
open Go.RowKit help pv
set_option linter.all false

def inR (m : Nat) (c : Int) : Bool := decide (0 ≤ c) && decide (c < (m : Int))
def chkS (m : Nat) : List (List Int) → Int
  | [] => 0
  | l :: r => if l.length > 8 then 2 else if l.all (inR m) = true then chkS m r else 1
def usedL (m : Nat) (D : List Int) : List Bool := (List.range m).map fun i : Nat => decide ((i : Int) ∈ D)
def usedA (D : List Int) : Fin 64 → Bool := fun i => decide ((i.1 : Int) ∈ D)
def allIn (m : Nat) (D : List Int) : Bool := (List.range m).all fun i : Nat => decide ((i : Int) ∈ D)
def bad (r : S_cow_Room) : Int :=
  if (r.fCells.length > 64 ∨ r.fSpaces.length > 8) then 2 else if chkS r.fCells.length r.fSpaces = 0 then (if allIn r.fCells.length r.fSpaces.flatten = true then 0 else 3) else chkS r.fCells.length r.fSpaces
/-- a room that is right -/
structure Rt (r : S_cow_Room) : Prop where
  c : r.fCells.length ≤ 64
  s : r.fSpaces.length ≤ 8
  l : ∀ l ∈ r.fSpaces, l.length ≤ 8 ∧ ∀ c ∈ l, 0 ≤ c ∧ c < (r.fCells.length : Int)
theorem chkS_0 {m : Nat} : ∀ {S : List (List Int)}, chkS m S = 0 → ∀ l ∈ S, l.length ≤ 8 ∧ ∀ c ∈ l, 0 ≤ c ∧ c < (m : Int)
  | [], _, l, h => by cases h
  | x :: S, h, l, hl => by
    rw [chkS] at h
    by_cases h1 : x.length > 8
    · rw [if_pos h1] at h; cases h
    rw [if_neg h1] at h
    by_cases h2 : x.all (inR m) = true
    · rw [if_pos h2] at h
      rcases List.mem_cons.1 hl with rfl | hl
      · refine ⟨by omega, fun c hc => ?_⟩
        have := List.all_eq_true.1 h2 c hc
        simpa [inR] using this
      · exact chkS_0 h l hl
    · rw [if_neg h2] at h; cases h
theorem bad_rt {r : S_cow_Room} (h : bad r = 0) : Rt r := by
  unfold bad at h
  by_cases h1 : r.fCells.length > 64 ∨ r.fSpaces.length > 8
  · rw [if_pos h1] at h; cases h
  rw [if_neg h1] at h
  by_cases h2 : chkS r.fCells.length r.fSpaces = 0
  · exact ⟨by omega, by omega, chkS_0 h2⟩
  · rw [if_neg h2] at h; exact absurd h h2
theorem inG (n : Nat) (a b c : Int) : G_ringref2_In n a b c = some (decide (b ≤ a ∧ a ≤ c)) := by
  unfold G_ringref2_In
  split
  · simp; omega
  · simp; omega
theorem usedL_len (m : Nat) (D : List Int) : (usedL m D).length = m := by simp [usedL]
theorem usedL_get {m : Nat} {D : List Int} {i : Nat} (h : i < m) : (usedL m D)[i]? = some (decide ((i : Int) ∈ D)) := by
  simp [usedL, List.getElem?_map, List.getElem?_range h]
theorem usedL_set {m : Nat} {D : List Int} {c : Int} (h0 : 0 ≤ c) (h1 : c < (m : Int)) : (usedL m D).set c.toNat true = usedL m (D ++ [c]) := by
  apply List.ext_getElem?
  intro i
  rw [List.getElem?_set, usedL_len]
  by_cases e : c.toNat = i
  · subst e
    rw [if_pos rfl, if_pos (by omega), usedL_get (by omega)]
    have : ((c.toNat : Nat) : Int) = c := by omega
    simp [this]
  · rw [if_neg e]
    by_cases hi : i < m
    · rw [usedL_get hi, usedL_get hi]
      have : ¬ (i : Int) = c := by omega
      simp [this]
    · rw [List.getElem?_eq_none (by rw [usedL_len]; omega), List.getElem?_eq_none (by rw [usedL_len]; omega)]
theorem usedA_get {D : List Int} {c : Int} (h0 : 0 ≤ c) (h1 : c < 64) : getA (usedA D) c = some (decide (c ∈ D)) := by
  unfold getA usedA
  rw [dif_pos (by omega)]
  have : ((c.toNat : Nat) : Int) = c := by omega
  simp only [this]
theorem usedA_set {D : List Int} {c : Int} (h0 : 0 ≤ c) (h1 : c < 64) : setA (usedA D) c true = usedA (D ++ [c]) := by
  funext i
  unfold setA usedA
  by_cases e : i.1 = c.toNat
  · have e2 : (i.1 : Int) = c := by omega
    rw [if_pos e, e2]
    simp
  · have e2 : ¬ (i.1 : Int) = c := by omega
    simp [e, e2]
section
variable {n : Nat} {r : S_cow_Room}
theorem checkL2 {x : Int} {y : List Int} (hy : y.length ≤ 8) : ∀ (k i : Nat) (D : List Int), y.length - i < k → i ≤ y.length →
    G_cow_Check_L2 n r x y k (i : Int) (usedL r.fCells.length D) = some (if (y.drop i).all (inR r.fCells.length) = true then .x1 (usedL r.fCells.length (D ++ y.drop i)) else .x0 1)
  | 0, i, _, h, _ => by omega
  | k + 1, i, D, hk, hi => by
    rw [G_cow_Check_L2]
    by_cases hlt : (i : Int) < (y.length : Int)
    · obtain ⟨c, hc⟩ := get_lt hlt
      rw [if_pos hlt, getI_nat, hc, Option.bind_some, drop_cons hc, List.all_cons]
      by_cases h1 : c < 0
      · rw [if_pos h1]
        have : inR r.fCells.length c = false := by simp [inR]; omega
        simp [this]
      rw [if_neg h1]
      by_cases h2 : c ≥ (r.fCells.length : Int)
      · rw [if_pos h2]
        have : inR r.fCells.length c = false := by simp [inR]; omega
        simp [this]
      have hin : inR r.fCells.length c = true := by simp [inR]; omega
      rw [if_neg h2, if_pos ⟨by omega, by rw [usedL_len]; omega⟩, usedL_get (by omega), Option.bind_some, usedL_set (by omega) (by omega), wi_succ (by omega), checkL2 hy k (i + 1) _ (by omega) (by omega)]
      simp [hin]
    · rw [if_neg hlt, drop_end hlt]; simp
theorem checkL3 (hn : 20000 ≤ n) (hs : r.fSpaces.length ≤ 8) : ∀ (k i : Nat) (D : List Int), r.fSpaces.length - i < k → i ≤ r.fSpaces.length →
    G_cow_Check_L3 n r k (i : Int) (usedL r.fCells.length D) = some (if chkS r.fCells.length (r.fSpaces.drop i) = 0 then .x1 (usedL r.fCells.length (D ++ (r.fSpaces.drop i).flatten)) else .x0 (chkS r.fCells.length (r.fSpaces.drop i)))
  | 0, i, _, h, _ => by omega
  | k + 1, i, D, hk, hi => by
    rw [G_cow_Check_L3]
    by_cases hlt : (i : Int) < (r.fSpaces.length : Int)
    · obtain ⟨y, hy⟩ := get_lt hlt
      rw [if_pos hlt, getI_nat, hy, Option.bind_some, drop_cons hy]
      by_cases h1 : (y.length : Int) > 8
      · have h1' : y.length > 8 := by omega
        have e0 : chkS r.fCells.length (y :: r.fSpaces.drop (i + 1)) = 2 := by rw [chkS, if_pos h1']
        rw [if_pos h1, e0]; rfl
      have h1' : ¬ y.length > 8 := by omega
      have e0 : chkS r.fCells.length (y :: r.fSpaces.drop (i + 1)) = if y.all (inR r.fCells.length) = true then chkS r.fCells.length (r.fSpaces.drop (i + 1)) else 1 := by rw [chkS, if_neg h1']
      rw [if_neg h1, e0]
      have e := checkL2 (n := n) (r := r) (x := (i : Int)) (y := y) (by omega) n 0 D (by omega) (by omega)
      have e : G_cow_Check_L2 n r (i : Int) y n 0 (usedL r.fCells.length D) = _ := e
      rw [e, Option.bind_some, List.drop_zero]
      cases h2 : y.all (inR r.fCells.length) with
      | false => simp
      | true =>
        simp only [if_true]
        rw [wi_succ (by omega), checkL3 hn hs k (i + 1) _ (by omega) (by omega)]
        simp
    · rw [if_neg hlt, drop_end hlt]; simp [chkS]
theorem usedL_false {m : Nat} {D : List Int} : false ∈ usedL m D ↔ allIn m D = false := by
  unfold usedL allIn
  rw [List.all_eq_false]
  simp only [List.mem_map, List.mem_range]
  constructor
  · rintro ⟨i, h1, h2⟩
    exact ⟨i, h1, by rw [h2]; decide⟩
  · rintro ⟨i, h1, h2⟩
    exact ⟨i, h1, by simpa using h2⟩
theorem check (hn : 20000 ≤ n) : G_cow_Check n r = some (bad r) := by
  unfold G_cow_Check bad
  have e1 : G_cow_Check_C1 n r = some (.x0 (decide (r.fCells.length > 64 ∨ r.fSpaces.length > 8))) := by
    unfold G_cow_Check_C1
    by_cases h : (r.fCells.length : Int) > 64
    · rw [if_pos h, decide_eq_true (by omega)]
    · rw [if_neg h]
      congr 2
      rw [decide_eq_decide]; omega
  rw [e1, Option.bind_some]
  by_cases h : r.fCells.length > 64 ∨ r.fSpaces.length > 8
  · rw [if_pos h]; simp only [decide_eq_true h, if_true]
  · rw [if_neg h]
    simp only [decide_eq_false h, Bool.false_eq_true, if_false]
    have em : mkL 1 false (r.fCells.length : Int) = some (usedL r.fCells.length []) := by
      unfold mkL
      rw [if_pos (by unfold maxLen; omega), Int.toNat_natCast]
      congr 1
      apply List.ext_getElem?
      intro i
      by_cases hi : i < r.fCells.length
      · rw [usedL_get hi, List.getElem?_replicate, if_pos hi]; simp
      · rw [List.getElem?_eq_none (by simp; omega), List.getElem?_eq_none (by rw [usedL_len]; omega)]
    have e3 := checkL3 (n := n) (r := r) hn (by omega) n 0 [] (by omega) (by omega)
    have e3 : G_cow_Check_L3 n r n 0 (usedL r.fCells.length []) = _ := e3
    rw [em, Option.bind_some, e3, Option.bind_some, List.drop_zero, List.nil_append]
    by_cases h2 : chkS r.fCells.length r.fSpaces = 0
    · rw [if_pos h2, if_pos h2]
      obtain ⟨b, hb, hb2⟩ := G_slices_Contains_bool_bool_sp (n := n) (l := usedL r.fCells.length r.fSpaces.flatten) false (by rw [usedL_len]; omega) (by rw [usedL_len]; omega)
      simp only []
      rw [hb, Option.bind_some]
      rw [usedL_false] at hb2
      cases hb3 : allIn r.fCells.length r.fSpaces.flatten with
      | false => rw [if_pos (hb2.2 hb3)]; rfl
      | true =>
        rw [if_neg (fun h => by rw [hb2.1 h] at hb3; cases hb3)]; rfl
    · rw [if_neg h2, if_neg h2]
theorem roomsL3 {x : Int} {y : List Int} (hy : y.length ≤ 8) (hc : r.fCells.length ≤ 64) : ∀ (k i : Nat) (D : List Int), y.length - i < k → i ≤ y.length →
    G_ringref2_Rooms_L3 n r x y k (i : Int) (usedA D) = some (if (y.drop i).all (inR r.fCells.length) = true then .x1 (usedA (D ++ y.drop i)) else .x0 1)
  | 0, i, _, h, _ => by omega
  | k + 1, i, D, hk, hi => by
    rw [G_ringref2_Rooms_L3]
    by_cases hlt : (i : Int) < (y.length : Int)
    · obtain ⟨c, hcc⟩ := get_lt hlt
      have ein : decide (0 ≤ c ∧ c ≤ wi .i64 ((r.fCells.length : Int) - 1)) = inR r.fCells.length c := by
        rw [wi64 (by omega) (by omega), Bool.eq_iff_iff]
        simp only [inR, decide_eq_true_eq, Bool.and_eq_true]
        omega
      rw [if_pos hlt, getI_nat, hcc, Option.bind_some, inG, Option.bind_some, ein, drop_cons hcc, List.all_cons]
      cases hin : inR r.fCells.length c with
      | false => simp
      | true =>
        have h2 : 0 ≤ c ∧ c < (r.fCells.length : Int) := by simpa [inR] using hin
        rw [if_pos rfl, if_pos ⟨h2.1, by omega⟩, usedA_get h2.1 (by omega), Option.bind_some, usedA_set h2.1 (by omega), wi_succ (by omega), roomsL3 hy hc k (i + 1) _ (by omega) (by omega)]
        simp
    · rw [if_neg hlt, drop_end hlt]; simp
theorem roomsL4 (hn : 20000 ≤ n) (hs : r.fSpaces.length ≤ 8) (hc : r.fCells.length ≤ 64) : ∀ (k i : Nat) (D : List Int), r.fSpaces.length - i < k → i ≤ r.fSpaces.length →
    G_ringref2_Rooms_L4 n r k (i : Int) (usedA D) = some (if chkS r.fCells.length (r.fSpaces.drop i) = 0 then .x1 (usedA (D ++ (r.fSpaces.drop i).flatten)) else .x0 (chkS r.fCells.length (r.fSpaces.drop i)))
  | 0, i, _, h, _ => by omega
  | k + 1, i, D, hk, hi => by
    rw [G_ringref2_Rooms_L4]
    by_cases hlt : (i : Int) < (r.fSpaces.length : Int)
    · obtain ⟨y, hy⟩ := get_lt hlt
      rw [if_pos hlt, getI_nat, hy, Option.bind_some, drop_cons hy]
      by_cases h1 : (y.length : Int) > 8
      · have h1' : y.length > 8 := by omega
        have e0 : chkS r.fCells.length (y :: r.fSpaces.drop (i + 1)) = 2 := by rw [chkS, if_pos h1']
        rw [if_pos h1, e0]; rfl
      have h1' : ¬ y.length > 8 := by omega
      have e0 : chkS r.fCells.length (y :: r.fSpaces.drop (i + 1)) = if y.all (inR r.fCells.length) = true then chkS r.fCells.length (r.fSpaces.drop (i + 1)) else 1 := by rw [chkS, if_neg h1']
      rw [if_neg h1, e0]
      have e := roomsL3 (n := n) (r := r) (x := (i : Int)) (y := y) (by omega) hc n 0 D (by omega) (by omega)
      have e : G_ringref2_Rooms_L3 n r (i : Int) y n 0 (usedA D) = _ := e
      rw [e, Option.bind_some, List.drop_zero]
      cases h2 : y.all (inR r.fCells.length) with
      | false => simp
      | true =>
        simp only [if_true]
        rw [wi_succ (by omega), roomsL4 hn hs hc k (i + 1) _ (by omega) (by omega)]
        simp
    · rw [if_neg hlt, drop_end hlt]; simp [chkS]
open Classical in
theorem roomsL5 {D : List Int} (hc : r.fCells.length ≤ 64) : ∀ (k i : Nat), r.fCells.length - i < k → i ≤ r.fCells.length →
    G_ringref2_Rooms_L5 n r (usedA D) k (i : Int) = some (if (∀ j : Nat, i ≤ j → j < r.fCells.length → (j : Int) ∈ D) then .x1 else .x0 3)
  | 0, i, h, _ => by omega
  | k + 1, i, hk, hi => by
    rw [G_ringref2_Rooms_L5]
    by_cases hlt : (i : Int) < (r.fCells.length : Int)
    · rw [if_pos hlt, if_pos ⟨by omega, by omega⟩, usedA_get (by omega) (by omega), Option.bind_some]
      by_cases h : (i : Int) ∈ D
      · rw [if_pos (decide_eq_true h), wi_succ (by omega), roomsL5 hc k (i + 1) (by omega) (by omega)]
        by_cases h2 : ∀ j : Nat, i + 1 ≤ j → j < r.fCells.length → (j : Int) ∈ D
        · rw [if_pos h2, if_pos]
          intro j hj hj2
          by_cases e : j = i
          · subst e; exact h
          · exact h2 j (by omega) hj2
        · rw [if_neg h2, if_neg]
          intro h3
          exact h2 fun j hj hj2 => h3 j (by omega) hj2
      · rw [if_neg (by simpa using h), if_neg]
        intro h3
        exact h (h3 i (Nat.le_refl _) (by omega))
    · rw [if_neg hlt, if_pos (fun j hj hj2 => by omega)]
theorem rooms (hn : 20000 ≤ n) : G_ringref2_Rooms n r = some (bad r) := by
  unfold G_ringref2_Rooms bad
  have e1 : G_ringref2_Rooms_C1 n r = some (.x0 (decide (r.fCells.length > 64 ∨ r.fSpaces.length > 8))) := by
    unfold G_ringref2_Rooms_C1
    by_cases h : (r.fCells.length : Int) > 64
    · rw [if_pos h, decide_eq_true (by omega)]
    · rw [if_neg h]
      congr 2
      rw [decide_eq_decide]; omega
  rw [e1, Option.bind_some]
  by_cases h : r.fCells.length > 64 ∨ r.fSpaces.length > 8
  · rw [if_pos h]; simp only [decide_eq_true h, if_true]
  · rw [if_neg h]
    simp only [decide_eq_false h, Bool.false_eq_true, if_false]
    have e0 : (fun (_ : Fin 64) => false) = usedA [] := by funext i; simp [usedA]
    have e3 := roomsL4 (n := n) (r := r) hn (by omega) (by omega) n 0 [] (by omega) (by omega)
    have e3 : G_ringref2_Rooms_L4 n r n 0 (usedA []) = _ := e3
    rw [e0, e3, Option.bind_some, List.drop_zero, List.nil_append]
    by_cases h2 : chkS r.fCells.length r.fSpaces = 0
    · rw [if_pos h2, if_pos h2]
      have e5 := roomsL5 (n := n) (r := r) (D := r.fSpaces.flatten) (by omega) n 0 (by omega) (by omega)
      have e5 : G_ringref2_Rooms_L5 n r (usedA r.fSpaces.flatten) n 0 = _ := e5
      simp only []
      rw [e5, Option.bind_some]
      have hiff : (∀ j : Nat, 0 ≤ j → j < r.fCells.length → (j : Int) ∈ r.fSpaces.flatten) ↔ allIn r.fCells.length r.fSpaces.flatten = true := by
        unfold allIn
        rw [List.all_eq_true]
        simp only [List.mem_range, decide_eq_true_eq]
        exact ⟨fun h i hi => h i (Nat.zero_le _) hi, fun h j _ hj => h j hj⟩
      by_cases h3 : allIn r.fCells.length r.fSpaces.flatten = true
      · rw [if_pos (hiff.2 h3), if_pos h3]
      · rw [if_neg (fun hh => h3 (hiff.1 hh)), if_neg h3]
    · rw [if_neg h2, if_neg h2]
/-- what cow.space answers -/
def spc (r : S_cow_Room) (s : Int) : Int := if (bad r = 0 ∧ ¬ (0 ≤ s ∧ s < r.fSpaces.length)) then 4 else bad r
theorem space (hn : 20000 ≤ n) (s : Int) : G_cow_space n r s = some (spc r s) := by
  unfold G_cow_space spc
  rw [check hn, Option.bind_some]
  have e : G_cow_space_C1 n s (bad r) r = some (.x0 (decide (bad r = 0 ∧ ¬ (0 ≤ s ∧ s < r.fSpaces.length)))) := by
    unfold G_cow_space_C1
    by_cases h : bad r = 0
    · rw [if_pos h]
      by_cases c : s < 0
      · rw [if_pos c, decide_eq_true ⟨h, by omega⟩]
      · rw [if_neg c]
        congr 2
        rw [decide_eq_decide]
        exact ⟨fun hh => ⟨h, by omega⟩, fun hh => by omega⟩
    · rw [if_neg h, decide_eq_false (fun hh => h hh.1)]
  rw [e, Option.bind_some]
  by_cases c : bad r = 0 ∧ ¬ (0 ≤ s ∧ s < r.fSpaces.length)
  · simp only [decide_eq_true c, if_true]
    rw [if_pos c]
  · simp only [decide_eq_false c, Bool.false_eq_true, if_false]
    rw [if_neg c]
theorem spc_0 {s : Int} (h : spc r s = 0) : bad r = 0 ∧ ∃ (i : Nat) (y : List Int), s = (i : Int) ∧ r.fSpaces[i]? = some y ∧ i < r.fSpaces.length := by
  unfold spc at h
  by_cases c : bad r = 0 ∧ ¬ (0 ≤ s ∧ s < r.fSpaces.length)
  · rw [if_pos c] at h; cases h
  · rw [if_neg c] at h
    have h2 : 0 ≤ s ∧ s < r.fSpaces.length := by
      apply Classical.byContradiction; intro hh; exact c ⟨h, hh⟩
    exact ⟨h, s.toNat, r.fSpaces[s.toNat]'(by omega), by omega, List.getElem?_eq_getElem (by omega), by omega⟩
end
end Go.Proofs.Ytpeakaeblibfmaa.cowTells
