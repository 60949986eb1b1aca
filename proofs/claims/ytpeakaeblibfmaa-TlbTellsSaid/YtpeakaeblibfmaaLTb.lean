/- The plain law of TlbTells, first part: what is wrong with processors. -/
import Derived.Test.YtpeakaeblibfmaaSpTb
import Derived.Test.YtpeakaeblibfmaaSr
namespace Go.Proofs.Ytpeakaeblibfmaa.tlbTells
open Go.RowKit help pv
set_option linter.all false

def pgB (s p : Int) : Bool := decide (1 ≤ s ∧ s ≤ 16 ∧ 0 ≤ p ∧ p ≤ 63)
def ordB (o : S_tlb_Order) : Bool := decide (1 ≤ o.fSpace ∧ o.fSpace ≤ 16 ∧ -1 ≤ o.fPage ∧ o.fPage ≤ 63)
/-- a line of this page -/
def sm (s p : Int) (x : S_tlb_Line) : Bool := decide (x.fSpace = s) && decide (x.fPage = p)
def chkL : List S_tlb_Line → List S_tlb_Line → Bool
  | _, [] => true
  | q, x :: l => pgB x.fSpace x.fPage && (!(q.any (sm x.fSpace x.fPage)) && chkL (q ++ [x]) l)
def okC (c : S_tlb_Cpu) : Bool := chkL [] c.fLines && c.fOrders.all ordB
def chkC : List S_tlb_Cpu → Int
  | [] => 0
  | c :: l => if (c.fLines.length > 8 ∨ c.fOrders.length > 4) then 2 else if okC c = true then chkC l else 3
def bad (l : List S_tlb_Cpu) : Int := if (1 ≤ l.length ∧ l.length ≤ 4) then chkC l else 1
structure Ok (n : Nat) (l : List S_tlb_Cpu) : Prop where
  k : l.length < 4611686018427387903
  m : l.length + 20000 < n
  u : ∀ c ∈ l, (c.fLines.length < 4611686018427387903 ∧ c.fLines.length + 20000 < n) ∧ (c.fOrders.length < 4611686018427387903 ∧ c.fOrders.length + 20000 < n)
theorem chkL_V : ∀ (l q : List S_tlb_Line), chkL q l = true → (∀ x ∈ l, ∀ y ∈ q, sm x.fSpace x.fPage y = false) ∧ l.Pairwise (fun x y => sm y.fSpace y.fPage x = false)
  | [], q, _ => ⟨by simp, .nil⟩
  | x :: l, q, h => by
    simp only [chkL, Bool.and_eq_true, Bool.not_eq_true'] at h
    obtain ⟨h1, h2, h3⟩ := h
    obtain ⟨i1, i2⟩ := chkL_V l (q ++ [x]) h3
    refine ⟨?_, .cons (fun y hy => i1 y hy x (by simp)) i2⟩
    intro y hy z hz
    rcases List.mem_cons.1 hy with rfl | hy
    · rw [Bool.eq_false_iff]
      intro hh
      rw [List.any_eq_false] at h2
      exact h2 z hz hh
    · exact i1 y hy z (by simp [hz])
theorem chkC_0 : ∀ (l : List S_tlb_Cpu), chkC l = 0 → ∀ c ∈ l, c.fLines.length ≤ 8 ∧ c.fOrders.length ≤ 4 ∧ c.fLines.Pairwise (fun x y => sm y.fSpace y.fPage x = false) ∧ ∀ o ∈ c.fOrders, ordB o = true
  | [], _, c, hc => by cases hc
  | c :: l, h, d, hd => by
    rw [chkC] at h
    by_cases h1 : c.fLines.length > 8 ∨ c.fOrders.length > 4
    · rw [if_pos h1] at h; cases h
    rw [if_neg h1] at h
    by_cases h2 : okC c = true
    · rw [if_pos h2] at h
      rcases List.mem_cons.1 hd with rfl | hd
      · simp only [okC, Bool.and_eq_true, List.all_eq_true] at h2
        exact ⟨by omega, by omega, (chkL_V _ _ h2.1).2, h2.2⟩
      · exact chkC_0 l h d hd
    · rw [if_neg h2] at h; cases h
theorem bad_0 {l : List S_tlb_Cpu} (h : bad l = 0) : (1 ≤ l.length ∧ l.length ≤ 4) ∧ ∀ c ∈ l, c.fLines.length ≤ 8 ∧ c.fOrders.length ≤ 4 ∧ c.fLines.Pairwise (fun x y => sm y.fSpace y.fPage x = false) ∧ ∀ o ∈ c.fOrders, ordB o = true := by
  unfold bad at h
  by_cases c : 1 ≤ l.length ∧ l.length ≤ 4
  · rw [if_pos c] at h; exact ⟨c, chkC_0 l h⟩
  · rw [if_neg c] at h; cases h
theorem inG (n : Nat) (a b c : Int) : G_ringref2_In n a b c = some (decide (b ≤ a ∧ a ≤ c)) := by
  unfold G_ringref2_In
  split
  · simp; omega
  · simp; omega
theorem rightG (n : Nat) (s p : Int) : G_tlb_right n s p = some (pgB s p) := by
  unfold G_tlb_right G_tlb_right_C1 pgB
  by_cases h1 : s ≥ 1
  · rw [if_pos h1]
    by_cases h2 : s ≤ 16
    · rw [if_pos h2]
      by_cases h3 : p ≥ 0
      · rw [if_pos h3, Option.bind_some]
        simp only [Option.some.injEq, decide_eq_decide]; omega
      · rw [if_neg h3, Option.bind_some]
        simp only [Option.some.injEq]; symm; rw [decide_eq_false_iff_not]; omega
    · rw [if_neg h2, Option.bind_some]
      simp only [Option.some.injEq]; symm; rw [decide_eq_false_iff_not]; omega
  · rw [if_neg h1, Option.bind_some]
    simp only [Option.some.injEq]; symm; rw [decide_eq_false_iff_not]; omega
theorem pageG (n : Nat) (s p : Int) : G_ringref2_PageOf n s p = some (pgB s p) := by
  unfold G_ringref2_PageOf pgB
  rw [inG, Option.bind_some]
  by_cases h : 1 ≤ s ∧ s ≤ 16
  · rw [if_pos (by simpa using h), inG, Option.bind_some]
    simp only [Option.some.injEq, decide_eq_decide]; omega
  · rw [if_neg (by simpa using h)]
    simp only [Option.some.injEq]; symm; rw [decide_eq_false_iff_not]; omega
theorem orderG (n : Nat) (o : S_tlb_Order) : G_ringref2_OrderIs n o = some (ordB o) := by
  unfold G_ringref2_OrderIs ordB
  rw [inG, Option.bind_some]
  by_cases h : 1 ≤ o.fSpace ∧ o.fSpace ≤ 16
  · rw [if_pos (by simpa using h), inG, Option.bind_some]
    simp only [Option.some.injEq, decide_eq_decide]; omega
  · rw [if_neg (by simpa using h)]
    simp only [Option.some.injEq]; symm; rw [decide_eq_false_iff_not]; omega
theorem ordB_right (o : S_tlb_Order) : ordB o = (pgB o.fSpace (maxI o.fPage 0) && !decide (o.fPage < -1)) := by
  unfold ordB pgB maxI
  rw [Bool.eq_iff_iff]
  simp only [Bool.and_eq_true, decide_eq_true_eq, Bool.not_eq_true', decide_eq_false_iff_not]
  split <;> omega
theorem find1 (n : Nat) (x : S_tlb_Line) (s p : Int) : G_tlb_find_1 n x s p = some (sm s p x) := by
  unfold G_tlb_find_1 sm
  by_cases h : x.fSpace = s
  · rw [if_pos h]; simp [h]; rfl
  · rw [if_neg h]; simp [h]
theorem fill1 (n : Nat) (x : S_tlb_Line) (s p : Int) : G_tlb_Fill_1 n x s p = some (sm s p x) := by
  unfold G_tlb_Fill_1 sm
  by_cases h : x.fSpace = s
  · rw [if_pos h]; simp [h]; rfl
  · rw [if_neg h]; simp [h]
theorem find {n : Nat} {l : List S_tlb_Line} {s p : Int} (hl : l.length < 4611686018427387903) (hn : l.length < n) : G_tlb_find n l s p = some (findI (sm s p) l) := by
  unfold G_tlb_find
  rw [G_slices_IndexFunc_tlb_Line_tlb_Line_sp (sm s p) (fun y _ => find1 n y s p) hl hn]
  rfl
theorem sub_to {α : Type} {l : List α} {j : Nat} (hj : j ≤ l.length) : sub l 0 (j : Int) = some (l.take j) := by
  unfold sub; rw [if_pos (by omega)]; simp
theorem sub_from {α : Type} {l : List α} {j : Nat} (hj : j ≤ l.length) : sub l (j : Int) (l.length : Int) = some (l.drop j) := by
  unfold sub; rw [if_pos (by omega)]; simp
theorem take_snoc {α : Type} {l : List α} {i : Nat} {x : α} (h : l[i]? = some x) : l.take (i + 1) = l.take i ++ [x] := by
  rw [List.take_add_one, h]; rfl
section
variable {n : Nat} {l : List S_tlb_Cpu} {y : S_tlb_Cpu} {xx : Int}
theorem checkL2 (h : y.fLines.length < 4611686018427387903) (hn : y.fLines.length + 20000 < n) : ∀ (k i : Nat), y.fLines.length - i < k → i ≤ y.fLines.length →
    G_tlb_Check_L2 n l xx y k (i : Int) = some (if chkL (y.fLines.take i) (y.fLines.drop i) = true then .x1 else .x0 3)
  | 0, i, h, _ => by omega
  | k + 1, i, hk, hi => by
    rw [G_tlb_Check_L2]
    by_cases hlt : (i : Int) < (y.fLines.length : Int)
    · obtain ⟨x, hx⟩ := get_lt hlt
      rw [if_pos hlt, getI_nat, hx, Option.bind_some, rightG, Option.bind_some, drop_cons hx, chkL]
      cases hp : pgB x.fSpace x.fPage with
      | false => simp
      | true =>
        rw [if_pos rfl, sub_to hi, Option.bind_some, find (by rw [List.length_take]; omega) (by rw [List.length_take]; omega), Option.bind_some]
        have e := findI_nn (sm x.fSpace x.fPage) (y.fLines.take i)
        by_cases c : findI (sm x.fSpace x.fPage) (y.fLines.take i) ≥ 0
        · rw [if_pos c, ← e, decide_eq_true c]; simp
        · rw [if_neg c, ← e, decide_eq_false c, wi_succ (by omega), checkL2 h hn k (i + 1) (by omega) (by omega), take_snoc hx]
          simp
    · rw [if_neg hlt, drop_end hlt]; simp [chkL]
theorem checkL3 (h : y.fOrders.length < 4611686018427387903) : ∀ (k i : Nat), y.fOrders.length - i < k → i ≤ y.fOrders.length →
    G_tlb_Check_L3 n l xx y k (i : Int) = some (if (y.fOrders.drop i).all ordB = true then .x1 else .x0 3)
  | 0, i, h, _ => by omega
  | k + 1, i, hk, hi => by
    rw [G_tlb_Check_L3]
    by_cases hlt : (i : Int) < (y.fOrders.length : Int)
    · obtain ⟨x, hx⟩ := get_lt hlt
      rw [if_pos hlt, getI_nat, hx, Option.bind_some, rightG, Option.bind_some, drop_cons hx, List.all_cons, ordB_right x]
      cases hp : pgB x.fSpace (maxI x.fPage 0) with
      | false => simp
      | true =>
        rw [if_pos rfl]
        by_cases c : x.fPage < -1
        · rw [if_pos c]; simp [c]
        · rw [if_neg c, wi_succ (by omega), checkL3 h k (i + 1) (by omega) (by omega)]
          simp [c]
    · rw [if_neg hlt, drop_end hlt]; simp
theorem checkL4 (ok : Ok n l) : ∀ (k i : Nat), l.length - i < k → i ≤ l.length →
    G_tlb_Check_L4 n l k (i : Int) = some (if chkC (l.drop i) = 0 then .x1 else .x0 (chkC (l.drop i)))
  | 0, i, h, _ => by omega
  | k + 1, i, hk, hi => by
    have hl := ok.k
    rw [G_tlb_Check_L4]
    by_cases hlt : (i : Int) < (l.length : Int)
    · obtain ⟨c, hc⟩ := get_lt hlt
      obtain ⟨⟨u1, u2⟩, u3, u4⟩ := ok.u c (List.mem_of_getElem? hc)
      have e1 : G_tlb_Check_C1 n l (i : Int) c = some (.x0 (decide (c.fLines.length > 8 ∨ c.fOrders.length > 4))) := by
        unfold G_tlb_Check_C1
        by_cases h : (c.fLines.length : Int) > 8
        · rw [if_pos h, decide_eq_true (by omega)]
        · rw [if_neg h]
          congr 2
          rw [decide_eq_decide]; omega
      rw [if_pos hlt, getI_nat, hc, Option.bind_some, e1, Option.bind_some, drop_cons hc, chkC]
      by_cases h : c.fLines.length > 8 ∨ c.fOrders.length > 4
      · rw [if_pos h]; simp only [decide_eq_true h, if_true]; rfl
      · rw [if_neg h]
        simp only [decide_eq_false h, Bool.false_eq_true, if_false]
        have e2 := checkL2 (l := l) (xx := (i : Int)) u1 u2 n 0 (by omega) (by omega)
        have e2 : G_tlb_Check_L2 n l (i : Int) c n 0 = _ := e2
        have e3 := checkL3 (n := n) (l := l) (xx := (i : Int)) u3 n 0 (by omega) (by omega)
        have e3 : G_tlb_Check_L3 n l (i : Int) c n 0 = _ := e3
        rw [e2, Option.bind_some]
        simp only [List.take_zero, List.drop_zero] at e3 ⊢
        cases h2 : chkL [] c.fLines with
        | false => simp [okC, h2]
        | true =>
          simp only [if_true]
          rw [e3, Option.bind_some]
          cases h3 : c.fOrders.all ordB with
          | false => simp [okC, h2, h3]
          | true =>
            simp only [if_true]
            rw [wi_succ (by omega), checkL4 ok k (i + 1) (by omega) (by omega)]
            simp [okC, h2, h3]
    · rw [if_neg hlt, drop_end hlt]; simp [chkC]
theorem newG (n : Nat) (c : Int) : G_tlb_New n c = some (if 1 ≤ c ∧ c ≤ 4 then (List.replicate c.toNat ⟨[], []⟩, 0) else ([], 1)) := by
  unfold G_tlb_New
  by_cases h : c < 1
  · rw [if_pos h, if_neg (by omega)]
  rw [if_neg h]
  by_cases h2 : c > 4
  · rw [if_pos h2, if_neg (by omega)]
  rw [if_neg h2, if_pos (by omega), mkL, if_pos (by unfold maxLen; omega)]
  rfl
theorem check (ok : Ok n l) : G_tlb_Check n l = some (bad l) := by
  have hn := ok.m
  unfold G_tlb_Check bad
  rw [newG, Option.bind_some]
  by_cases c : 1 ≤ (l.length : Int) ∧ (l.length : Int) ≤ 4
  · rw [if_pos c, if_pos rfl, if_pos (by omega)]
    have e := checkL4 ok n 0 (by omega) (by omega)
    have e : G_tlb_Check_L4 n l n 0 = _ := e
    rw [e, Option.bind_some, List.drop_zero]
    by_cases h : chkC l = 0
    · rw [if_pos h, h]
    · rw [if_neg h]
  · rw [if_neg c, if_neg (by simp), if_neg (by omega)]
theorem tlbsL2 {x : Int} {s : List S_tlb_Line} {z : S_tlb_Line} {v : Int} (h : s.length < 4611686018427387903) : ∀ (k i : Nat), s.length - i < k → i ≤ s.length →
    G_ringref2_Tlbs_L2 n l v y x s z k (i : Int) = some (if (s.drop i).any (sm z.fSpace z.fPage) = true then .x0 3 else .x1)
  | 0, i, h, _ => by omega
  | k + 1, i, hk, hi => by
    rw [G_ringref2_Tlbs_L2]
    by_cases hlt : (i : Int) < (s.length : Int)
    · obtain ⟨a, ha⟩ := get_lt hlt
      rw [if_pos hlt, getI_nat, ha, Option.bind_some, drop_cons ha, List.any_cons, wi_succ (by omega), tlbsL2 h k (i + 1) (by omega) (by omega)]
      by_cases h1 : a.fSpace = z.fSpace
      · rw [if_pos h1]
        by_cases h2 : a.fPage = z.fPage
        · rw [if_pos h2]; simp [sm, h1, h2]
        · rw [if_neg h2]; simp [sm, h1, h2]
      · rw [if_neg h1]; simp [sm, h1]
    · rw [if_neg hlt, drop_end hlt]; simp
theorem tlbsL3 (h : y.fLines.length < 4611686018427387903) (hn : y.fLines.length + 20000 < n) : ∀ (k i : Nat), y.fLines.length - i < k → i ≤ y.fLines.length →
    G_ringref2_Tlbs_L3 n l xx y k (i : Int) = some (if chkL (y.fLines.take i) (y.fLines.drop i) = true then .x1 else .x0 3)
  | 0, i, h, _ => by omega
  | k + 1, i, hk, hi => by
    rw [G_ringref2_Tlbs_L3]
    by_cases hlt : (i : Int) < (y.fLines.length : Int)
    · obtain ⟨x, hx⟩ := get_lt hlt
      rw [if_pos hlt, getI_nat, hx, Option.bind_some, pageG, Option.bind_some, drop_cons hx, chkL]
      cases hp : pgB x.fSpace x.fPage with
      | false => simp
      | true =>
        have hlen : (y.fLines.take i).length = i := by rw [List.length_take]; omega
        have e := tlbsL2 (n := n) (l := l) (y := y) (x := (i : Int)) (s := y.fLines.take i) (z := x) (v := xx) (by omega) n 0 (by omega) (by omega)
        have e : G_ringref2_Tlbs_L2 n l xx y (i : Int) (y.fLines.take i) x n 0 = _ := e
        rw [if_pos rfl, sub_to hi, Option.bind_some, e, Option.bind_some, List.drop_zero]
        cases c : (y.fLines.take i).any (sm x.fSpace x.fPage) with
        | true => simp
        | false =>
          simp only [Bool.false_eq_true, if_false]
          rw [wi_succ (by omega), tlbsL3 h hn k (i + 1) (by omega) (by omega), take_snoc hx]
          simp
    · rw [if_neg hlt, drop_end hlt]; simp [chkL]
theorem tlbsL4 (h : y.fOrders.length < 4611686018427387903) : ∀ (k i : Nat), y.fOrders.length - i < k → i ≤ y.fOrders.length →
    G_ringref2_Tlbs_L4 n l xx y k (i : Int) = some (if (y.fOrders.drop i).all ordB = true then .x1 else .x0 3)
  | 0, i, h, _ => by omega
  | k + 1, i, hk, hi => by
    rw [G_ringref2_Tlbs_L4]
    by_cases hlt : (i : Int) < (y.fOrders.length : Int)
    · obtain ⟨x, hx⟩ := get_lt hlt
      rw [if_pos hlt, getI_nat, hx, Option.bind_some, orderG, Option.bind_some, drop_cons hx, List.all_cons]
      cases hp : ordB x with
      | false => simp
      | true =>
        rw [if_pos rfl, wi_succ (by omega), tlbsL4 h k (i + 1) (by omega) (by omega)]
        simp
    · rw [if_neg hlt, drop_end hlt]; simp
theorem tlbsL5 (ok : Ok n l) : ∀ (k i : Nat), l.length - i < k → i ≤ l.length →
    G_ringref2_Tlbs_L5 n l k (i : Int) = some (if chkC (l.drop i) = 0 then .x1 else .x0 (chkC (l.drop i)))
  | 0, i, h, _ => by omega
  | k + 1, i, hk, hi => by
    have hl := ok.k
    rw [G_ringref2_Tlbs_L5]
    by_cases hlt : (i : Int) < (l.length : Int)
    · obtain ⟨c, hc⟩ := get_lt hlt
      obtain ⟨⟨u1, u2⟩, u3, u4⟩ := ok.u c (List.mem_of_getElem? hc)
      have e1 : G_ringref2_Tlbs_C1 n l (i : Int) c = some (.x0 (decide (c.fLines.length > 8 ∨ c.fOrders.length > 4))) := by
        unfold G_ringref2_Tlbs_C1
        by_cases h : (c.fLines.length : Int) > 8
        · rw [if_pos h, decide_eq_true (by omega)]
        · rw [if_neg h]
          congr 2
          rw [decide_eq_decide]; omega
      rw [if_pos hlt, getI_nat, hc, Option.bind_some, e1, Option.bind_some, drop_cons hc, chkC]
      by_cases h : c.fLines.length > 8 ∨ c.fOrders.length > 4
      · rw [if_pos h]; simp only [decide_eq_true h, if_true]; rfl
      · rw [if_neg h]
        simp only [decide_eq_false h, Bool.false_eq_true, if_false]
        have e2 := tlbsL3 (l := l) (xx := (i : Int)) u1 u2 n 0 (by omega) (by omega)
        have e2 : G_ringref2_Tlbs_L3 n l (i : Int) c n 0 = _ := e2
        have e3 := tlbsL4 (n := n) (l := l) (xx := (i : Int)) u3 n 0 (by omega) (by omega)
        have e3 : G_ringref2_Tlbs_L4 n l (i : Int) c n 0 = _ := e3
        rw [e2, Option.bind_some]
        simp only [List.take_zero, List.drop_zero] at e3 ⊢
        cases h2 : chkL [] c.fLines with
        | false => simp [okC, h2]
        | true =>
          simp only [if_true]
          rw [e3, Option.bind_some]
          cases h3 : c.fOrders.all ordB with
          | false => simp [okC, h2, h3]
          | true =>
            simp only [if_true]
            rw [wi_succ (by omega), tlbsL5 ok k (i + 1) (by omega) (by omega)]
            simp [okC, h2, h3]
    · rw [if_neg hlt, drop_end hlt]; simp [chkC]
theorem tlbs (ok : Ok n l) : G_ringref2_Tlbs n l = some (bad l) := by
  have hn := ok.m
  unfold G_ringref2_Tlbs bad
  rw [inG, Option.bind_some]
  by_cases c : 1 ≤ (l.length : Int) ∧ (l.length : Int) ≤ 4
  · rw [if_pos (by simpa using c), if_pos (by omega)]
    have e := tlbsL5 ok n 0 (by omega) (by omega)
    have e : G_ringref2_Tlbs_L5 n l n 0 = _ := e
    rw [e, Option.bind_some, List.drop_zero]
    by_cases h : chkC l = 0
    · rw [if_pos h, h]
    · rw [if_neg h]
  · rw [if_neg (by simpa using c), if_neg (by omega)]
/-- what tlb.check answers -/
def chk (l : List S_tlb_Cpu) (cpu : Int) : Int := if bad l = 0 ∧ ¬ (0 ≤ cpu ∧ cpu < l.length) then 4 else bad l
theorem chkG (ok : Ok n l) (cpu : Int) : G_tlb_check n l cpu = some (chk l cpu) := by
  unfold G_tlb_check chk
  rw [check ok, Option.bind_some]
  have e : G_tlb_check_C1 n l cpu (bad l) = some (.x0 (decide (bad l = 0 ∧ ¬ (0 ≤ cpu ∧ cpu < l.length)))) := by
    unfold G_tlb_check_C1
    by_cases h : bad l = 0
    · rw [if_pos h]
      by_cases c : cpu < 0
      · rw [if_pos c, decide_eq_true ⟨h, by omega⟩]
      · rw [if_neg c]
        congr 2
        rw [decide_eq_decide]
        exact ⟨fun hh => ⟨h, by omega⟩, fun hh => by omega⟩
    · rw [if_neg h, decide_eq_false (fun hh => h hh.1)]
  rw [e, Option.bind_some]
  by_cases c : bad l = 0 ∧ ¬ (0 ≤ cpu ∧ cpu < l.length)
  · simp only [decide_eq_true c, if_true]
    rw [if_pos c]
  · simp only [decide_eq_false c, Bool.false_eq_true, if_false]
    rw [if_neg c]
theorem chk_0 {cpu : Int} (h : chk l cpu = 0) : bad l = 0 ∧ ∃ (i : Nat) (c : S_tlb_Cpu), cpu = (i : Int) ∧ l[i]? = some c ∧ i < l.length := by
  unfold chk at h
  by_cases c : bad l = 0 ∧ ¬ (0 ≤ cpu ∧ cpu < l.length)
  · rw [if_pos c] at h; cases h
  · rw [if_neg c] at h
    have h2 : 0 ≤ cpu ∧ cpu < l.length := by
      apply Classical.byContradiction; intro hh; exact c ⟨h, hh⟩
    exact ⟨h, cpu.toNat, l[cpu.toNat]'(by omega), by omega, List.getElem?_eq_getElem (by omega), by omega⟩
end
end Go.Proofs.Ytpeakaeblibfmaa.tlbTells
