/- LabelRuns returns true for all subjects, objects, accesses and numbers, and leaves its arguments alone. No condition. -/
import Derived.Test.YtjjjaakefnnbpaaLLab2
import Derived.ChangeOld
namespace Go.Proofs.Ytjjjaakefnnbpaa.labelRuns
open Go.ChangeShapes Go.WideShapes Go.ChangeAt Go.RowKit help rep pv
set_option linter.all false

theorem lc1 (n : Nat) (who what : List S_label_Label) (acts : List S_label_Act) (from_ : Int) (r : List Bool × Int) (r' : List Int × List Int × Int) : G_ringlaw5_LabelRuns_C1 n acts from_ r r' who what = some (.x0 (decide (who.length > 6 ∨ what.length > 6 ∨ acts.length > 40))) := by
  unfold G_ringlaw5_LabelRuns_C1
  by_cases a1 : (who.length : Int) > 6
  · rw [if_pos a1, decide_eq_true (by omega)]
  by_cases a2 : (what.length : Int) > 6
  · rw [if_neg a1, if_pos a2, decide_eq_true (by omega)]
  rw [if_neg a1, if_neg a2]
  by_cases a3 : (acts.length : Int) > 40
  · rw [decide_eq_true a3, decide_eq_true (by omega)]
  · rw [decide_eq_false a3, decide_eq_false (by omega)]
theorem lam2 (n : Nat) (who what : List S_label_Label) (a : S_label_Act) : G_ringlaw5_LabelRuns_2 n a who what = some (!inr who what a) := by
  unfold G_ringlaw5_LabelRuns_2 G_ringlaw5_LabelRuns_2_C1
  by_cases h : inr who what a = true
  · have := (inr_iff who what).1 h
    rw [if_neg (by omega), if_neg (by omega), if_neg (by omega), decide_eq_false (by omega), h]; rfl
  · have h' := act_out who what h
    have e : inr who what a = false := by simpa using h
    rw [e]
    by_cases a1 : a.fWho < 0
    · rw [if_pos a1]; rfl
    by_cases a2 : a.fWho ≥ who.length
    · rw [if_neg a1, if_pos a2]; rfl
    by_cases a3 : a.fWhat < 0
    · rw [if_neg a1, if_neg a2, if_pos a3]; rfl
    rw [if_neg a1, if_neg a2, if_neg a3, decide_eq_true (by omega)]; rfl
theorem lam1 (n : Nat) (l : S_label_Label) : G_ringlaw5_LabelRuns_1 n l = some (!okl l) := by
  unfold G_ringlaw5_LabelRuns_1
  rw [check_any]
  cases okl l <;> rfl
theorem lc2 (n : Nat) (hn : 200 ≤ n) (who what : List S_label_Label) (acts : List S_label_Act) (from_ : Int) (r : List Bool × Int) (r' : List Int × List Int × Int) : G_ringlaw5_LabelRuns_C2 n acts from_ r r' (decide (who.length > 6 ∨ what.length > 6 ∨ acts.length > 40)) who what = some (.x0 (verdict who what acts)) := by
  unfold G_ringlaw5_LabelRuns_C2 verdict
  by_cases h : who.length > 6 ∨ what.length > 6 ∨ acts.length > 40
  · simp [h]
  · rw [decide_eq_false h, if_neg (by decide), if_neg h, concat2 n _ _ (by omega) (by omega), Option.bind_some,
      G_slices_ContainsFunc_label_Label_label_Label_sp (fun l => !okl l) (fun y _ => lam1 n y) (by simp; omega) (by simp; omega), Option.bind_some,
      G_slices_ContainsFunc_label_Act_label_Act_sp (fun a => !inr who what a) (fun y _ => lam2 n who what y) (by omega) (by omega), Option.bind_some]
    have e1 : (who ++ what).any (fun l => !okl l) = !(who.all okl && what.all okl) := by
      rw [List.any_append, Bool.not_and, List.not_all_eq_any_not, List.not_all_eq_any_not]
    have e2 : acts.any (fun a => !inr who what a) = !(acts.all (inr who what)) := by rw [List.not_all_eq_any_not]
    rw [e1, e2]
    cases who.all okl <;> cases what.all okl <;> cases acts.all (inr who what) <;> simp
theorem taint_any (n : Nat) (hn : 200 ≤ n) (who what : List S_label_Label) (acts : List S_label_Act) (from_ : Int) :
    (verdict who what acts ≠ 0 ∧ G_label_Taint n who what acts from_ = some ([], [], verdict who what acts)) ∨
    (verdict who what acts = 0 ∧ ¬ (0 ≤ from_ ∧ from_ < what.length) ∧ G_label_Taint n who what acts from_ = some ([], [], 4)) ∨
    (verdict who what acts = 0 ∧ ∃ f : Nat, from_ = (f : Int) ∧ f < what.length) := by
  by_cases hv : verdict who what acts = 0
  · by_cases hf : 0 ≤ from_ ∧ from_ < what.length
    · obtain ⟨f, rfl⟩ := Int.eq_ofNat_of_zero_le hf.1
      exact .inr (.inr ⟨hv, f, rfl, by omega⟩)
    · refine .inr (.inl ⟨hv, hf, ?_⟩)
      unfold G_label_Taint G_label_Taint_C1
      rw [run_any who what acts n (by omega), Option.bind_some, if_pos hv]
      by_cases a1 : from_ < 0
      · rw [if_pos a1]; rfl
      · rw [if_neg a1, decide_eq_true (by omega)]; rfl
  · refine .inl ⟨hv, ?_⟩
    unfold G_label_Taint
    rw [run_any who what acts n (by omega), Option.bind_some, if_neg hv]
theorem eqI {n : Nat} (a : List Int) (hl : a.length ≤ 6) (hn : 200 ≤ n) : G_slices_Equal_int_int n a a = some true := by
  obtain ⟨r, h1, h2⟩ := G_slices_Equal_int_int_sp (n := n) a a (by omega) (by omega)
  rw [h1, h2.2 rfl]
theorem law (who what : List S_label_Label) (acts : List S_label_Act) (from_ : Int) : G_ringlaw5_LabelRuns 200 who what acts from_ = some true := by
  generalize hn' : (200 : Nat) = n
  have hn : 200 ≤ n := by omega
  clear hn'
  unfold G_ringlaw5_LabelRuns
  rw [run_any who what acts n (by omega), Option.bind_some]
  rcases taint_any n hn who what acts from_ with ⟨hv, ht⟩ | ⟨hv, hf, ht⟩ | ⟨hv, f, rfl, hf⟩
  · rw [ht, Option.bind_some, lc1, Option.bind_some]
    simp only []
    rw [lc2 n hn, Option.bind_some]
    simp only []
    rw [if_neg hv]
    unfold G_ringlaw5_LabelRuns_C3
    rw [if_neg hv, if_pos rfl, if_pos rfl]
    rfl
  all_goals
    have hvv := hv
    unfold verdict at hvv
    split at hvv
    · cases hvv
    rename_i hlen
    split at hvv
    rotate_left
    · cases hvv
    rename_i hok
    split at hvv
    rotate_left
    · cases hvv
    rename_i hin
    have l1 : who.length ≤ 6 := by omega
    have l2 : what.length ≤ 6 := by omega
    have l3 : acts.length ≤ 40 := by omega
  · rw [ht, Option.bind_some, lc1, Option.bind_some]
    simp only []
    rw [lc2 n hn, Option.bind_some]
    simp only []
    rw [if_pos hv, if_pos hv, hv]
    unfold G_ringlaw5_LabelRuns_C4
    simp only [if_true, List.length_map, bne_self_eq_false, Option.bind_some, Bool.false_eq_true, if_false]
    have c5 : G_ringlaw5_LabelRuns_C5 n acts from_ (acts.map (flow who what), 0) ([], [], 4) who what = some (.x0 false) := by
      unfold G_ringlaw5_LabelRuns_C5
      by_cases a1 : from_ ≥ 0
      · rw [if_pos a1, decide_eq_false (by omega)]
      · rw [if_neg a1]
    rw [c5, Option.bind_some]
    unfold G_ringlaw5_LabelRuns_C6
    simp only [Bool.false_eq_true, if_false, Option.bind_some]
    have h25 := l25_nil who what acts hok.1 hok.2 l1 l2 l3 hin n (by omega) ([], [], 4) n 0 (by omega) (by omega)
    have h25 : G_ringlaw5_LabelRuns_L25 n (acts.map (flow who what), 0) ([], [], 4) acts who what n 0 [] [] = _ := h25
    rw [h25]
    rfl
  · have f6 : f < 6 := by omega
    have i0 : Inv (fun (_ : Fin 6) => false) ([] : List Int) := ⟨fun j hj => by simp [at6], (fun x hx => by cases hx), List.nodup_nil⟩
    have hz : ∀ j, at6 (fun (_ : Fin 6) => false) j = false := fun j => by simp [at6]
    have i1 : Inv (setA (fun (_ : Fin 6) => false) (f : Int) true) ([(f : Int)]) := i0.add f6 (hz f) (fun j hj => by rw [setA6 hj])
    have hT : ∃ x y, G_label_Taint n who what acts (f : Int) = some (x, y, 0) ∧ ∀ r', ∃ K' H' ks' hs', G_ringlaw5_LabelRuns_L15 n (acts.map (flow who what), 0) r' acts who what n 0 [] [(f : Int)] = some (.x1 ks' hs') ∧ Inv K' ks' ∧ Inv H' hs' ∧ hs' ≠ [] ∧ x = lst K' 0 ∧ y = lst H' 0 := by
      unfold G_label_Taint G_label_Taint_C1
      rw [run_any who what acts n (by omega), Option.bind_some, hv]
      simp only [if_true]
      rw [if_neg (by omega), decide_eq_false (by omega), Option.bind_some]
      simp only [Bool.false_eq_true, if_false]
      rw [if_pos ⟨by omega, by omega⟩, getA6 f6, Option.bind_some]
      obtain ⟨K', H', _, _, j1, _⟩ := joint who what acts hok.1 hok.2 l1 l2 l3 hin n (by omega) ([], [], 0) n 0 _ _ [] [(f : Int)] (by omega) (by omega) i0 i1 (by simp)
      have j1' : G_label_Taint_L8 n (acts.map (flow who what), 0) acts n 0 (fun (_ : Fin 6) => false) (setA (fun (_ : Fin 6) => false) (f : Int) true) = _ := j1
      have h10 := l10_any n K' H' n 0 [] [] (by omega) (by omega) (by simp) (by simp)
      have h10 : G_label_Taint_L10 n K' H' n 0 [] [] = _ := h10
      rw [j1', Option.bind_some]
      simp only []
      rw [h10]
      refine ⟨_, _, rfl, fun r' => ?_⟩
      obtain ⟨K2, H2, ks, hs, q1, q2, q3, q4, q5⟩ := joint who what acts hok.1 hok.2 l1 l2 l3 hin n (by omega) r' n 0 _ _ [] [(f : Int)] (by omega) (by omega) i0 i1 (by simp)
      rw [j1] at q1
      obtain ⟨rfl, rfl⟩ : K' = K2 ∧ H' = H2 := by
        have := Option.some.inj q1
        simp only [G_label_Taint_L8_R.x0.injEq] at this
        exact this
      exact ⟨K', H', ks, hs, q2, q3, q4, q5, by simp, by simp⟩
    obtain ⟨x, y, ht, hj⟩ := hT
    obtain ⟨K', H', ks, hs, q2, q3, q4, q5, rfl, rfl⟩ := hj (x, y, 0)
    rw [ht, Option.bind_some, lc1, Option.bind_some]
    simp only []
    rw [lc2 n hn, Option.bind_some]
    simp only []
    rw [if_pos hv, if_pos hv, hv]
    unfold G_ringlaw5_LabelRuns_C4
    simp only [if_true, List.length_map, bne_self_eq_false, Option.bind_some, Bool.false_eq_true, if_false]
    have c5 : ∀ r r', G_ringlaw5_LabelRuns_C5 n acts (f : Int) r r' who what = some (.x0 true) := by
      intro r r'
      unfold G_ringlaw5_LabelRuns_C5
      rw [if_pos (by omega), decide_eq_true (by omega)]
    rw [c5, Option.bind_some]
    unfold G_ringlaw5_LabelRuns_C6
    simp only [if_true, Option.bind_some]
    rw [q2, Option.bind_some]
    simp only []
    have hne : ¬ ((hs.length : Int) = 0) := by
      cases hs with
      | nil => exact absurd rfl q5
      | cons => simp; omega
    obtain ⟨S1, s1, s2, s3⟩ := sort_any n ks (by have := q3.len; omega) (by omega)
    obtain ⟨S2, t1, t2, t3⟩ := sort_any n hs (by have := q4.len; omega) (by omega)
    have eS1 : S1 = lst K' 0 := sorted_eq (s2.trans q3.perm) s3 (lst_sorted K')
    have eS2 : S2 = lst H' 0 := sorted_eq (t2.trans q4.perm) t3 (lst_sorted H')
    rw [if_neg hne, s1, Option.bind_some, t1, Option.bind_some, eS1, eS2]
    unfold G_ringlaw5_LabelRuns_C16
    simp only [if_true]
    rw [eqI _ (lst_len K' 0) hn, Option.bind_some, if_pos rfl, eqI _ (lst_len H' 0) hn]
    rfl
end Go.Proofs.Ytjjjaakefnnbpaa.labelRuns
