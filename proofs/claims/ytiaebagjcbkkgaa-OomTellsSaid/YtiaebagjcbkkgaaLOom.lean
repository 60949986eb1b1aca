/- OomTells: tasks that are right, and the order in which they go. -/
import Derived.Test.YtiaebagjcbkkgaaSoOom
import Derived.Test.YtiaebagjcbkkgaaSpOom
namespace Go.Proofs.Ytiaebagjcbkkgaa.pv
set_option linter.all false
open Go.RowKit help
namespace om
/-- two lists that rise by a key and have the same members are the same -/
theorem rise_ext {α : Type} (k : α → Int) : ∀ (l1 l2 : List α), l1.Pairwise (fun a b => k a < k b) → l2.Pairwise (fun a b => k a < k b) → (∀ x, x ∈ l1 ↔ x ∈ l2) → l1 = l2
  | [], [], _, _, _ => rfl
  | [], b :: l2, _, _, h => by have := (h b).2 (by simp); simp at this
  | a :: l1, [], _, _, h => by have := (h a).1 (by simp); simp at this
  | a :: l1, b :: l2, h1, h2, h => by
    obtain ⟨p1, p2⟩ := List.pairwise_cons.1 h1
    obtain ⟨q1, q2⟩ := List.pairwise_cons.1 h2
    have e : a = b := by
      rcases List.mem_cons.1 ((h a).1 (by simp)) with e | e
      · exact e
      · rcases List.mem_cons.1 ((h b).2 (by simp)) with e' | e'
        · exact e'.symm
        · have := p1 b e'; have := q1 a e; omega
    subst e
    congr 1
    refine rise_ext k l1 l2 p2 q2 fun x => ⟨fun hx => ?_, fun hx => ?_⟩
    · rcases List.mem_cons.1 ((h x).1 (by simp [hx])) with e | e
      · have := p1 x hx; rw [e] at this; omega
      · exact e
    · rcases List.mem_cons.1 ((h x).2 (by simp [hx])) with e | e
      · have := q1 x hx; rw [e] at this; omega
      · exact e
abbrev T := S_oom_Task
/-- a task that is right -/
def rg (t : T) : Prop := 1 ≤ t.fId ∧ t.fId ≤ 16 ∧ 0 ≤ t.fPages ∧ t.fPages ≤ 1048576 ∧ 0 ≤ t.fScore ∧ t.fScore ≤ 1048576
instance : DecidablePred rg := fun t => by unfold rg; exact inferInstance
instance : Inhabited T := ⟨⟨0, 0, 0, false⟩⟩
def okT (l : List T) : Prop := l.length ≤ 16 ∧ (∀ t ∈ l, rg t) ∧ l.Pairwise (fun a b => a.fId ≠ b.fId)
theorem sub0 {α : Type} (l : List α) (i : Nat) (h : i ≤ l.length) : sub l 0 (i : Int) = some (l.take i) := by
  unfold sub
  rw [if_pos ⟨by omega, by omega, by omega⟩]
  simp
theorem sub1 {α : Type} (l : List α) (i : Nat) (h : i ≤ l.length) : sub l (i : Int) (l.length : Int) = some (l.drop i) := by
  unfold sub
  rw [if_pos ⟨by omega, by omega, by omega⟩]
  simp
theorem in_any (n : Nat) (x a b : Int) : G_ringref2_In n x a b = some (decide (a ≤ x ∧ x ≤ b)) := by
  unfold G_ringref2_In
  by_cases h : x ≥ a
  · rw [if_pos h]; congr 1; rw [Bool.eq_iff_iff]; simp only [decide_eq_true_eq]; omega
  · rw [if_neg h, decide_eq_false (by omega)]
theorem same_loop (n : Nat) (l : List T) (x : Int) (s : List T) (y : T) (hs : s.length ≤ 100) : ∀ (k i : Nat), s.length - i < k → i ≤ s.length →
    G_ringref2_Tasks_L2 n l x s y k (i : Int) = some (if (s.drop i).any (fun z => z.fId == y.fId) then .x0 5 else .x1)
  | 0, i, h, _ => by omega
  | k + 1, i, h, hi => by
    rw [G_ringref2_Tasks_L2]
    by_cases h1 : i < s.length
    · rw [if_pos (by omega), getI_nat, List.getElem?_eq_getElem h1, Option.bind_some, drop_cons (List.getElem?_eq_getElem h1), List.any_cons]
      by_cases e : s[i].fId = y.fId
      · rw [if_pos e, beq_iff_eq.2 e]; simp
      · rw [if_neg e, beq_eq_false_iff_ne.2 e, wi_succ (by omega), same_loop n l x s y hs k (i + 1) (by omega) (by omega)]; simp
    · rw [if_neg (by omega), List.drop_eq_nil_of_le (by omega)]; rfl
theorem check_loop (n : Nat) (hn : 110 < n) (l : List T) (hl : l.length ≤ 16) : ∀ (k i : Nat), l.length - i < k → i ≤ l.length →
    (∃ e : Int, e ≠ 0 ∧ G_oom_Check_L2 n l k (i : Int) = some (.x0 e) ∧ G_ringref2_Tasks_L3 n l k (i : Int) = some (.x0 e)) ∨
    (G_oom_Check_L2 n l k (i : Int) = some .x1 ∧ G_ringref2_Tasks_L3 n l k (i : Int) = some .x1 ∧ (∀ j (h : j < l.length), i ≤ j → rg l[j] ∧ ∀ z ∈ l.take j, z.fId ≠ l[j].fId))
  | 0, i, h, _ => by omega
  | k + 1, i, h, hi => by
    rw [G_oom_Check_L2, G_ringref2_Tasks_L3]
    by_cases h1 : i < l.length
    · rw [if_pos (by omega), if_pos (by omega), getI_nat, List.getElem?_eq_getElem h1, Option.bind_some, Option.bind_some]
      have c1 : G_oom_Check_C1 n l (i : Int) l[i] = some (.x0 (decide (¬ rg l[i]))) := by
        generalize l[i] = y
        unfold G_oom_Check_C1 rg
        by_cases a1 : y.fId < 1
        · rw [if_pos a1, decide_eq_true (by omega)]
        by_cases a2 : y.fId > 16
        · rw [if_neg a1, if_pos a2, decide_eq_true (by omega)]
        by_cases a3 : y.fPages < 0
        · rw [if_neg a1, if_neg a2, if_pos a3, decide_eq_true (by omega)]
        by_cases a4 : y.fPages > 1048576
        · rw [if_neg a1, if_neg a2, if_neg a3, if_pos a4, decide_eq_true (by omega)]
        by_cases a5 : y.fScore < 0
        · rw [if_neg a1, if_neg a2, if_neg a3, if_neg a4, if_pos a5, decide_eq_true (by omega)]
        rw [if_neg a1, if_neg a2, if_neg a3, if_neg a4, if_neg a5]
        congr 2
        rw [Bool.eq_iff_iff]; simp only [decide_eq_true_eq]; omega
      have c2 : G_ringref2_Tasks_C1 n l (i : Int) l[i] = some (.x0 (decide (¬ rg l[i]))) := by
        generalize l[i] = y
        unfold G_ringref2_Tasks_C1 rg
        rw [in_any, Option.bind_some]
        by_cases a1 : 1 ≤ y.fId ∧ y.fId ≤ 16
        · rw [decide_eq_true a1, if_pos rfl, in_any, Option.bind_some]
          by_cases a2 : 0 ≤ y.fPages ∧ y.fPages ≤ 1048576
          · rw [decide_eq_true a2, if_pos rfl, in_any, Option.bind_some]
            congr 2
            rw [Bool.eq_iff_iff]; simp only [Bool.not_eq_true', decide_eq_false_iff_not, decide_eq_true_eq]; omega
          · rw [decide_eq_false a2, if_neg (by simp), decide_eq_true (by omega)]
        · rw [decide_eq_false a1, if_neg (by simp), decide_eq_true (by omega)]
      rw [c1, c2, Option.bind_some, Option.bind_some]
      simp only
      by_cases hr : rg l[i]
      · rw [decide_eq_false (by simpa using hr)]
        simp only [Bool.false_eq_true, if_false]
        have hlt : (l.take i).length ≤ 16 := by simp; omega
        rw [sub0 l i (by omega), Option.bind_some, Option.bind_some, G_slices_ContainsFunc_oom_Task_oom_Task_sp (n := n) (l := l.take i) (fun z => z.fId == l[i].fId) (fun z _ => by unfold G_oom_Check_1; rfl) (by omega) (by omega), Option.bind_some]
        have hs := same_loop n l (i : Int) (l.take i) l[i] (by omega) n 0 (by omega) (by omega)
        have hs : G_ringref2_Tasks_L2 n l (i : Int) (l.take i) l[i] n 0 = _ := hs
        rw [List.drop_zero] at hs
        rw [hs, Option.bind_some]
        by_cases ha : (l.take i).any (fun z => z.fId == l[i].fId) = true
        · rw [ha]
          simp only [if_true]
          exact .inl ⟨5, by decide, rfl, rfl⟩
        · rw [if_neg ha, if_neg ha, wi_succ (by omega)]
          simp only
          rcases check_loop n hn l hl k (i + 1) (by omega) (by omega) with h' | ⟨g1, g2, g3⟩
          · exact .inl h'
          · refine .inr ⟨g1, g2, fun j hj hij => ?_⟩
            by_cases e : j = i
            · subst e
              refine ⟨hr, fun z hz => ?_⟩
              intro q
              exact ha (List.any_eq_true.2 ⟨z, hz, beq_iff_eq.2 q⟩)
            · exact g3 j hj (by omega)
      · rw [decide_eq_true hr]
        simp only [if_true]
        exact .inl ⟨1, by decide, rfl, rfl⟩
    · rw [if_neg (by omega), if_neg (by omega)]
      exact .inr ⟨rfl, rfl, fun j hj hij => by omega⟩
theorem check_any (n : Nat) (hn : 110 < n) (l : List T) : ∃ e : Int, G_oom_Check n l = some e ∧ G_ringref2_Tasks n l = some e ∧ (e = 0 → okT l) := by
  unfold G_oom_Check G_ringref2_Tasks
  by_cases h16 : (l.length : Int) > 16
  · rw [if_pos h16, if_pos h16]
    exact ⟨2, rfl, rfl, fun h => absurd h (by decide)⟩
  · rw [if_neg h16, if_neg h16]
    rcases check_loop n hn l (by omega) n 0 (by omega) (by omega) with ⟨e, h0, h1, h2⟩ | ⟨h1, h2, h3⟩
    · have h1 : G_oom_Check_L2 n l n 0 = _ := h1
      have h2 : G_ringref2_Tasks_L3 n l n 0 = _ := h2
      rw [h1, h2]
      exact ⟨e, rfl, rfl, fun h => absurd h h0⟩
    · have h1 : G_oom_Check_L2 n l n 0 = _ := h1
      have h2 : G_ringref2_Tasks_L3 n l n 0 = _ := h2
      rw [h1, h2]
      refine ⟨0, rfl, rfl, fun _ => ⟨by omega, fun t ht => ?_, ?_⟩⟩
      · obtain ⟨j, hj, rfl⟩ := List.mem_iff_getElem.1 ht
        exact (h3 j hj (by omega)).1
      · rw [List.pairwise_iff_getElem]
        intro i j hi hj hij
        exact (h3 j hj (by omega)).2 _ (List.mem_take_iff_getElem.2 ⟨i, by omega, rfl⟩)
/-! the order -/
def K (t : T) : Int := t.fScore * 67108864 + (1048576 - t.fPages) * 32 + t.fId
theorem K_inj {a b : T} (ha : rg a) (hb : rg b) (h : K a = K b) : a.fId = b.fId := by
  unfold K at h; unfold rg at ha hb; omega
def cmpI (a b : Int) : Int := if a < b then -1 else if a > b then 1 else 0
theorem cmp_any (n : Nat) (a b : Int) : G_cmp_Compare_int n a b = some (cmpI a b) := by
  unfold G_cmp_Compare_int G_cmp_isNaN_int cmpI
  simp only [bne_self_eq_false, Option.bind_some, Bool.false_eq_true, if_false]
  by_cases h1 : a < b
  · rw [if_pos h1, if_pos h1]
  · rw [if_neg h1, if_neg h1]
    by_cases h2 : a > b
    · rw [if_pos h2, if_pos h2]
    · rw [if_neg h2, if_neg h2]
theorem or_loop (n : Nat) (vs : List Int) (hv : vs.length ≤ 100) : ∀ (k i : Nat), vs.length - i < k → i ≤ vs.length →
    G_cmp_Or_int_L1 n vs k (i : Int) = some (match (vs.drop i).find? (fun v => v != 0) with | some v => .x0 v | none => .x1)
  | 0, i, h, _ => by omega
  | k + 1, i, h, hi => by
    rw [G_cmp_Or_int_L1]
    by_cases h1 : i < vs.length
    · rw [if_pos (by omega), getI_nat, List.getElem?_eq_getElem h1, Option.bind_some, drop_cons (List.getElem?_eq_getElem h1), List.find?_cons]
      by_cases e : vs[i] = 0
      · rw [if_pos e, e, wi_succ (by omega), or_loop n vs hv k (i + 1) (by omega) (by omega)]; rfl
      · have : (vs[i] != 0) = true := by simpa using e
        rw [if_neg e, this]
    · rw [if_neg (by omega), List.drop_eq_nil_of_le (by omega)]; rfl
theorem or_any (n : Nat) (hn : 110 < n) (vs : List Int) (hv : vs.length ≤ 100) : G_cmp_Or_int n vs = some ((vs.find? (fun v => v != 0)).getD 0) := by
  unfold G_cmp_Or_int
  have h := or_loop n vs hv n 0 (by omega) (by omega)
  have h : G_cmp_Or_int_L1 n vs n 0 = _ := h
  rw [h, List.drop_zero, Option.bind_some]
  cases vs.find? (fun v => v != 0) <;> rfl
def ltK (a b : T) : Bool := decide (K a < K b)
theorem swoK {f : T → Int} : Go.Sort.SWO (fun a b => decide (f a < f b)) := by
  constructor <;> intros <;> simp_all <;> omega
theorem cmp2 (n : Nat) (hn : 110 < n) (a b : T) (ha : rg a) (hb : rg b) : ∃ c : Int, G_oom_ordered_2 n a b = some c ∧ ltK a b = decide (c < 0) := by
  unfold G_oom_ordered_2
  rw [cmp_any, cmp_any, cmp_any, Option.bind_some, Option.bind_some, Option.bind_some, or_any n hn _ (by simp), Option.bind_some]
  refine ⟨_, rfl, ?_⟩
  unfold ltK K rg at *
  rw [Bool.eq_iff_iff]
  simp only [decide_eq_true_eq]
  unfold cmpI
  simp only [List.find?_cons, List.find?_nil]
  by_cases a1 : a.fScore < b.fScore
  · rw [if_pos a1]; simp; omega
  · rw [if_neg a1]
    by_cases a2 : a.fScore > b.fScore
    · rw [if_pos a2]; simp; omega
    · rw [if_neg a2]
      simp only [bne_self_eq_false]
      by_cases a3 : b.fPages < a.fPages
      · rw [if_pos a3]; simp; omega
      · rw [if_neg a3]
        by_cases a4 : b.fPages > a.fPages
        · rw [if_pos a4]; simp; omega
        · rw [if_neg a4]
          simp only [bne_self_eq_false]
          by_cases a5 : a.fId < b.fId
          · rw [if_pos a5]; simp; omega
          · rw [if_neg a5]
            by_cases a6 : a.fId > b.fId
            · rw [if_pos a6]; simp; omega
            · rw [if_neg a6]; simp; omega
theorem ahead_any (n : Nat) (a b : T) (ha : rg a) (hb : rg b) : G_ringref2_TaskAhead n a b = some (decide (K a < K b)) := by
  unfold G_ringref2_TaskAhead K
  unfold rg at *
  by_cases a1 : a.fScore = b.fScore
  · rw [if_pos a1]
    by_cases a2 : a.fPages = b.fPages
    · rw [if_pos a2]; congr 1; rw [Bool.eq_iff_iff]; simp only [decide_eq_true_eq]; omega
    · rw [if_neg a2]; congr 1; rw [Bool.eq_iff_iff]; simp only [decide_eq_true_eq]; omega
  · rw [if_neg a1]; congr 1; rw [Bool.eq_iff_iff]; simp only [decide_eq_true_eq]; omega
/-- those that may go -/
def live (l : List T) : List T := l.filter (fun t => !(t.fKept || t.fPages == 0))
/-- the same ones, in their order -/
def Ord (l r : List T) : Prop := (∀ x, x ∈ r ↔ x ∈ live l) ∧ r.Pairwise (fun a b => K a < K b) ∧ r.length ≤ 16
theorem live_rg {l : List T} (h : okT l) : ∀ t ∈ live l, rg t ∧ 0 < t.fPages := by
  intro t ht
  unfold live at ht
  rw [List.mem_filter] at ht
  have := h.2.1 t ht.1
  refine ⟨this, ?_⟩
  unfold rg at this
  have h2 := ht.2
  simp at h2
  omega
theorem live_ne {l : List T} (h : okT l) : (live l).Pairwise (fun a b => K a ≠ K b) := by
  have h1 : (live l).Pairwise (fun a b => a.fId ≠ b.fId) := h.2.2.filter _
  have h2 : ∀ t ∈ live l, rg t := fun t ht => (live_rg h t ht).1
  exact List.Pairwise.imp_of_mem (fun {a b} ha hb hab q => hab (K_inj (h2 a ha) (h2 b hb) q)) h1
theorem Ord_unique {l r r' : List T} (h : Ord l r) (h' : Ord l r') : r = r' :=
  rise_ext K r r' h.2.1 h'.2.1 fun x => (h.1 x).trans (h'.1 x).symm
theorem ordered_any (n : Nat) (hn : 200 < n) (l : List T) (h : okT l) : ∃ r, G_oom_ordered_h n l = some r ∧ Ord l r ∧ r.Perm (live l) := by
  unfold G_oom_ordered_h
  have hl := h.1
  have hcl : G_slices_Clone_oom_Task_oom_Task n l = some l := by
    unfold G_slices_Clone_oom_Task_oom_Task
    rw [app_some (by simp; omega) (by omega)]; simp
  have hdel := G_slices_DeleteFunc_oom_Task_oom_Task_h_sp n (fun y0 => G_oom_ordered_1 n y0) (fun t => t.fKept || t.fPages == 0) l (fun y _ => by unfold G_oom_ordered_1; cases y.fKept <;> rfl) (by omega) (by omega)
  rw [hcl, Option.bind_some, hdel, Option.bind_some]
  have hll : (live l).length ≤ 16 := Nat.le_trans (List.length_filter_le _ _) hl
  obtain ⟨r, r1, r2, r3⟩ := so.sorted n (Q := rg) (cmp := fun y0 y1 => G_oom_ordered_2 n y0 y1) (lt := ltK) (fun x y hx hy => cmp2 n (by omega) x y hx hy) swoK (live l) (fun x hx => (live_rg h x hx).1) (by omega) (by omega)
  have r1 : G_slices_SortFunc_oom_Task_oom_Task_h n (l.filter (fun t => !(t.fKept || t.fPages == 0))) (fun y0 y1 => G_oom_ordered_2 n y0 y1) = some r := r1
  rw [r1, Option.bind_some]
  refine ⟨r, rfl, ⟨fun x => r2.mem_iff, ?_, by rw [r2.length_eq]; exact hll⟩, r2⟩
  have hne : r.Pairwise (fun a b => K a ≠ K b) := (r2.pairwise_iff (fun {a b} (q : K a ≠ K b) => q.symm)).2 (live_ne h)
  refine (r3.and hne).imp ?_
  rintro a b ⟨q1, q2⟩
  unfold ltK at q1
  simp at q1
  omega
theorem filt_loop (n : Nat) (l : List T) (h : okT l) : ∀ (k i : Nat), l.length - i < k → i ≤ l.length → G_ringref2_TaskOrder_L2 n l k (i : Int) (live (l.take i)) = some (.x0 (live l))
  | 0, i, h', _ => by omega
  | k + 1, i, h', hi => by
    have hl := h.1
    rw [G_ringref2_TaskOrder_L2]
    by_cases h1 : i < l.length
    · have hr := h.2.1 l[i] (List.getElem_mem h1)
      have c1 : G_ringref2_TaskOrder_C1 n l (i : Int) (live (l.take i)) = some (.x0 (live (l.take (i + 1)))) := by
        unfold G_ringref2_TaskOrder_C1
        have hlen : (live (l.take i)).length ≤ 16 := Nat.le_trans (List.length_filter_le _ _) (by simp; omega)
        have e : live (l.take (i + 1)) = live (l.take i) ++ live [l[i]] := by unfold live; rw [List.take_succ_eq_append_getElem h1, List.filter_append]
        rw [getI_nat, List.getElem?_eq_getElem h1, Option.bind_some, e]
        generalize l[i] = y at *
        unfold rg at hr
        cases hk : y.fKept with
        | true => simp [live, hk]
        | false =>
          by_cases hp : y.fPages > 0
          · have : live [y] = [y] := by unfold live; simp [hk]; omega
            rw [if_neg (by simp), if_pos hp, app_some (by simp; omega) (by omega), this]; rfl
          · have : live [y] = [] := by unfold live; simp [hk]; omega
            rw [if_neg (by simp), if_neg hp, this]; simp
      rw [if_pos (by omega), c1, Option.bind_some, wi_succ (by omega)]
      exact filt_loop n l h k (i + 1) (by omega) (by omega)
    · rw [if_neg (by omega), List.take_of_length_le (by omega)]
/-- the first of the least ones -/
theorem best_loop (n : Nat) (w out : List T) (hw : ∀ t ∈ w, rg t) (hl : w.length ≤ 16) : ∀ (k i b : Nat), w.length - i < k → i ≤ w.length → (hb : b < w.length) → (∀ j (hj : j < w.length), j < i → K w[b] ≤ K w[j]) →
    ∃ c, ∃ hc : c < w.length, G_ringref2_TaskOrder_L3 n w k (b : Int) (i : Int) w out = some (.x0 (c : Int) w out) ∧ ∀ j (hj : j < w.length), K w[c] ≤ K w[j]
  | 0, i, b, h, _, _, _ => by omega
  | k + 1, i, b, h, hi, hb, hm => by
    rw [G_ringref2_TaskOrder_L3]
    by_cases h1 : i < w.length
    · simp only [Int.toNat_natCast]
      rw [if_pos (by omega), if_pos ⟨by omega, h1⟩, List.getElem?_eq_getElem h1, Option.bind_some, if_pos ⟨by omega, hb⟩, List.getElem?_eq_getElem hb, Option.bind_some, ahead_any n _ _ (hw _ (List.getElem_mem h1)) (hw _ (List.getElem_mem hb)), Option.bind_some, wi_succ (by omega)]
      by_cases e : K w[i] < K w[b]
      · rw [if_pos (decide_eq_true e)]
        exact best_loop n w out hw hl k (i + 1) i (by omega) (by omega) h1 (fun j hj hji => by
          by_cases q : j = i
          · subst q; omega
          · have := hm j hj (by omega); omega)
      · rw [if_neg (by simpa using e)]
        exact best_loop n w out hw hl k (i + 1) b (by omega) (by omega) hb (fun j hj hji => by
          by_cases q : j = i
          · subst q; omega
          · exact hm j hj (by omega))
    · rw [if_neg (by omega)]
      exact ⟨b, hb, rfl, fun j hj => hm j hj (by omega)⟩
theorem pick_loop (n : Nat) (hn : 110 < n) : ∀ (k : Nat) (w out : List T), w.length < k → w.length + out.length ≤ 16 → (∀ t ∈ w, rg t) → w.Pairwise (fun a b => K a ≠ K b) → out.Pairwise (fun a b => K a < K b) → (∀ a ∈ out, ∀ b ∈ w, K a < K b) →
    ∃ r, G_ringref2_TaskOrder_L4 n k w out = some (.x0 r) ∧ r.Pairwise (fun a b => K a < K b) ∧ (∀ x, x ∈ r ↔ x ∈ out ∨ x ∈ w) ∧ r.length = w.length + out.length
  | 0, w, out, h, _, _, _, _, _ => by omega
  | k + 1, w, out, h, hl, hw, hne, ho, how => by
    rw [G_ringref2_TaskOrder_L4]
    by_cases h0 : 0 < w.length
    · obtain ⟨c, hc, b1, b2⟩ := best_loop n w out hw (by omega) n 0 0 (by omega) (by omega) h0 (fun j hj hji => by omega)
      have b1 : G_ringref2_TaskOrder_L3 n w n 0 0 w out = _ := b1
      have hwc : wi .i64 ((c : Int) + 1) = ((c + 1 : Nat) : Int) := wi_succ (by omega)
      rw [if_pos (by omega), b1, Option.bind_some]
      simp only
      rw [if_pos ⟨by omega, by simpa using hc⟩, Int.toNat_natCast, List.getElem?_eq_getElem hc, Option.bind_some, app_some (by simp; omega) (by omega), Option.bind_some, sub0 w c (by omega), Option.bind_some, app_some (by simp; omega) (by omega), Option.bind_some, hwc, sub1 w (c + 1) (by omega), Option.bind_some, app_some (by simp; omega) (by omega), Option.bind_some, List.nil_append]
      have hsplit : w = w.take c ++ w[c] :: w.drop (c + 1) := by rw [← drop_cons (List.getElem?_eq_getElem hc), List.take_append_drop]
      have hmem : ∀ x, x ∈ w ↔ x = w[c] ∨ x ∈ w.take c ++ w.drop (c + 1) := by
        intro x
        constructor
        · intro hx
          rw [hsplit] at hx
          simp only [List.mem_append, List.mem_cons] at hx ⊢
          rcases hx with q | q | q
          · exact .inr (.inl q)
          · exact .inl q
          · exact .inr (.inr q)
        · intro hx
          rw [hsplit]
          simp only [List.mem_append, List.mem_cons] at hx ⊢
          rcases hx with q | q | q
          · exact .inr (.inl q)
          · exact .inl q
          · exact .inr (.inr q)
      have hne' : (w.take c ++ w[c] :: w.drop (c + 1)).Pairwise (fun a b => K a ≠ K b) := by rw [← hsplit]; exact hne
      have hlt : ∀ b ∈ w.take c ++ w.drop (c + 1), K w[c] < K b := by
        intro b hb
        have hbw := (hmem b).2 (.inr hb)
        obtain ⟨j, hj, rfl⟩ := List.mem_iff_getElem.1 hbw
        have h1 := b2 j hj
        have h2 : K w[c] ≠ K w[j] := by
          rw [List.mem_append] at hb
          have hp := List.pairwise_append.1 hne'
          rcases hb with hb | hb
          · exact fun q => hp.2.2 _ hb w[c] (List.mem_cons_self ..) q.symm
          · exact (List.pairwise_cons.1 hp.2.1).1 _ hb
        omega
      have hlen : (w.take c ++ w.drop (c + 1)).length + 1 = w.length := by simp; omega
      obtain ⟨r, r1, r2, r3, r4⟩ := pick_loop n hn k (w.take c ++ w.drop (c + 1)) (out ++ [w[c]]) (by omega) (by simp only [List.length_append, List.length_singleton] at hlen ⊢; omega) (fun t ht => hw t ((hmem t).2 (.inr ht)))
        (hne.sublist (by
          have : (w.take c ++ w.drop (c + 1)).Sublist (w.take c ++ w[c] :: w.drop (c + 1)) := (List.Sublist.refl _).append (List.sublist_cons_self _ _)
          rw [← hsplit] at this
          exact this))
        (by
          rw [List.pairwise_append]
          exact ⟨ho, by simp, fun a ha b hb => by rw [List.mem_singleton] at hb; subst hb; exact how a ha _ (List.getElem_mem hc)⟩)
        (fun a ha b hb => by
          rw [List.mem_append, List.mem_singleton] at ha
          rcases ha with ha | rfl
          · exact how a ha b ((hmem b).2 (.inr hb))
          · exact hlt b hb)
      refine ⟨r, r1, r2, fun x => ?_, by rw [r4]; simp only [List.length_append, List.length_singleton] at hlen ⊢; omega⟩
      rw [r3, List.mem_append, List.mem_singleton, hmem x]
      constructor
      · rintro ((q | q) | q)
        · exact .inl q
        · exact .inr (.inl q)
        · exact .inr (.inr q)
      · rintro (q | q | q)
        · exact .inl (.inl q)
        · exact .inl (.inr q)
        · exact .inr q
    · have : w = [] := List.eq_nil_of_length_eq_zero (by omega)
      subst this
      rw [if_neg (by simp)]
      exact ⟨out, rfl, ho, fun x => by simp, by simp⟩
theorem torder_any (n : Nat) (hn : 200 < n) (l : List T) (h : okT l) : ∃ r, G_ringref2_TaskOrder n l = some r ∧ Ord l r := by
  unfold G_ringref2_TaskOrder
  have hl := h.1
  have hll : (live l).length ≤ 16 := Nat.le_trans (List.length_filter_le _ _) hl
  have h1 := filt_loop n l h n 0 (by omega) (by omega)
  have h1 : G_ringref2_TaskOrder_L2 n l n 0 [] = _ := h1
  obtain ⟨r, r1, r2, r3, r4⟩ := pick_loop n (by omega) n (live l) [] (by omega) (by simpa using hll) (fun t ht => (live_rg h t ht).1) (live_ne h) (by simp) (by simp)
  rw [h1, Option.bind_some]
  simp only
  rw [r1, Option.bind_some]
  exact ⟨r, rfl, fun x => by rw [r3]; simp, r2, by rw [r4]; simpa using hll⟩
end om
end Go.Proofs.Ytiaebagjcbkkgaa.pv
