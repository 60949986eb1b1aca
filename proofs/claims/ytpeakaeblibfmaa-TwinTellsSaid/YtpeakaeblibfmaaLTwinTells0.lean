/- The plain law of TwinTells: all of it. -/
import Derived.Test.YtpeakaeblibfmaaLTw5
namespace Go.Proofs.Ytpeakaeblibfmaa.twinTells
open Go.RowKit help pv
set_option linter.all false

theorem newG (n : Nat) (o : Int) : G_twin_New n o = if 0 ≤ o ∧ o ≤ 6 then some (⟨o, [⟨0, o⟩]⟩, 0) else some (none', 1) := by
  unfold G_twin_New none'
  by_cases c : o < 0
  · rw [if_pos c, if_neg (by omega)]
  · rw [if_neg c]
    by_cases d : o > 6
    · rw [if_pos d, if_neg (by omega)]
    · rw [if_neg d, if_pos (by omega)]
theorem most_bad {n : Nat} {t : S_twin_Twin} (hl : t.fFree.length < 4611686018427387903) (hn : t.fFree.length < n) (hb : bad t ≠ 0) : G_twin_Most n t = some (0, 0, bad t) := by
  unfold G_twin_Most
  rw [check hl hn, Option.bind_some, if_neg hb]
theorem most_ok {n : Nat} {t : S_twin_Twin} (hl : t.fFree.length < 4611686018427387903) (hn : t.fFree.length < n) (hb : bad t = 0) (h6 : t.fOrder ≤ 6) (hv : V t.fOrder t.fFree) : G_twin_Most n t = some (mx (-1) t.fFree, sm t.fFree, 0) := by
  unfold G_twin_Most
  have hs := V_sum h6 t.fFree 0 hv (fun x hx => (hv.1 x hx).2.2.1) (by omega)
  have h := mostL (n := n) (t := t) h6 hl hv.1 n 0 (-1) 0 (by omega) (by omega) (by omega) (by rw [List.drop_zero]; omega)
  have h : G_twin_Most_L1 n t n (-1) 0 0 = _ := h
  rw [check hl hn, Option.bind_some, if_pos hb, h, Option.bind_some, List.drop_zero]
  simp
theorem bad_ok {t : S_twin_Twin} (h : bad t = 0) : 0 ≤ t.fOrder ∧ t.fOrder ≤ 6 ∧ V t.fOrder t.fFree := by
  unfold bad at h
  split at h
  · rename_i c
    split at h
    · rename_i d
      exact ⟨c.1, c.2, (V_of _ _ _ d).1⟩
    · cases h
  · cases h
theorem lawC1 {n : Nat} {o a : Int} {x : S_twin_Twin × Int} {x1 : S_twin_Twin × Int × Int} {x2 : S_twin_Twin × Int} {x3 : Int × Int × Int} {t : S_twin_Twin} (hn : 10 < n) (h : G_twin_New n o = some x) : G_ringlaw2_TwinTells_C1 n o a x x1 x2 x3 t = some (.x0 false) := by
  unfold G_ringlaw2_TwinTells_C1
  rw [newG] at h
  rw [inG, Option.bind_some]
  by_cases c : 0 ≤ o ∧ o ≤ 6
  · rw [if_pos c] at h
    cases h
    rw [if_pos (by simpa using c), Option.bind_some, if_pos (by simpa using c), same _ (by simp) (by simp; omega), Option.bind_some, if_pos rfl]
    rfl
  · rw [if_neg c] at h
    cases h
    have s := same (n := n) none' (by simp [none']) (by simp [none']; omega)
    unfold none' at s ⊢
    rw [if_neg (by simpa using c), s, Option.bind_some, if_pos rfl, if_pos rfl, Option.bind_some, if_neg (by simpa using c)]
theorem law_at {n : Nat} {t : S_twin_Twin} {o a : Int} (hl : t.fFree.length < 4611686018427387903) (hn : t.fFree.length + 20000 < n) : G_ringlaw2_TwinTells n t o a = some true := by
  have sn := same (n := n) none' (by simp [none']) (by simp [none']; omega)
  unfold G_ringlaw2_TwinTells
  obtain ⟨x, hx⟩ : ∃ x, G_twin_New n o = some x := by rw [newG]; split <;> exact ⟨_, rfl⟩
  rw [hx, Option.bind_some]
  by_cases hb : bad t = 0
  · obtain ⟨h0, h6, hv⟩ := bad_ok hb
    have hll := V_len h6 hv
    have hG : ∃ g, G_twin_Give n t a o = some g ∧ G_ringlaw2_TwinTells_C7 n o ((none', 0, 0) : S_twin_Twin × Int × Int) g (apt t.fOrder t.fFree ⟨a, o⟩) t a = some (.x0 false) := by
      unfold G_ringlaw2_TwinTells_C7
      cases ha : apt t.fOrder t.fFree ⟨a, o⟩ with
      | false =>
        refine ⟨_, give_not (by omega) hb h0 h6 hv ha, ?_⟩
        unfold none' at sn ⊢
        rw [if_neg (by decide), sn, Option.bind_some, if_pos rfl, if_pos rfl]
      | true =>
        obtain ⟨l, l1, l2, l3⟩ := give_in (n := n) (by omega) hb h0 h6 hv ha
        refine ⟨_, l2, ?_⟩
        rw [if_pos rfl, l3, Option.bind_some, same _ (by simp; omega) (by simp; omega), Option.bind_some, if_pos rfl]
        rfl
    obtain ⟨g, hg1, hg2⟩ := hG
    have hT : ∃ k, G_twin_Take n t o = some k ∧ ∀ (r : Option Bool), r = (((G_ringref2_In n o 0 t.fOrder).bind fun (v_r1878 : (Bool)) =>
                   if v_r1878 = true then
                    (G_ringref2_TwinTake n t o).bind fun (v_r2030 : (S_twin_Twin × Int × Bool)) =>
                    if v_r2030.2.2 = true then
                     (G_ringlaw2_TwinTells_C10 n k v_r2030).bind fun v_o2102 => match v_o2102 with
                     | .x0 v_z2103 =>
                       some v_z2103
                    else
                     (G_ringlaw2_TwinTells_C9 n k).bind fun v_o2079 => match v_o2079 with
                     | .x0 v_z2080 =>
                       some v_z2080
                   else
                    (G_ringlaw2_TwinTells_C8 n k).bind fun v_o1905 => match v_o1905 with
                    | .x0 v_z1906 =>
                      some v_z1906) : Option Bool) → r = some true := by
      by_cases c : 0 ≤ o ∧ o ≤ t.fOrder
      · rcases take_in (n := n) (by omega) hb h6 hv c.1 c.2 with ⟨e1, e2⟩ | ⟨l, p, e0, e1, e2⟩
        · refine ⟨_, e1, ?_⟩
          rintro r rfl
          unfold G_ringlaw2_TwinTells_C9
          unfold none' at sn e2 ⊢
          rw [inG, Option.bind_some, if_pos (by simpa using c), e2, Option.bind_some, if_neg (by decide), sn, Option.bind_some, if_pos rfl, if_pos rfl]
          rfl
        · refine ⟨_, e1, ?_⟩
          rintro r rfl
          unfold G_ringlaw2_TwinTells_C10
          rw [inG, Option.bind_some, if_pos (by simpa using c), e2, Option.bind_some, if_pos rfl, same _ (by simp; omega) (by simp; omega), Option.bind_some, if_pos rfl, if_pos rfl]
          rfl
      · refine ⟨_, take_out hl (by omega) hb c, ?_⟩
        rintro r rfl
        unfold G_ringlaw2_TwinTells_C8
        unfold none' at sn ⊢
        rw [inG, Option.bind_some, if_neg (by simpa using c), sn, Option.bind_some, if_pos rfl, if_pos rfl]
        rfl
    obtain ⟨k, hk1, hk2⟩ := hT
    rw [hk1, Option.bind_some, hg1, Option.bind_some, most_ok hl (by omega) hb h6 hv, Option.bind_some, lawC1 (by omega) hx, Option.bind_some]
    simp only [Bool.false_eq_true, if_false]
    rw [twins hl (by omega), Option.bind_some, check hl (by omega), Option.bind_some, if_pos rfl, if_pos hb, free h6 hl (by omega) hv.1, Option.bind_some]
    have hm := manyL (n := n) (t := t) (order := o) (at' := a) (x1 := k) (x2 := g) (x3 := (mx (-1) t.fFree, sm t.fFree, 0)) (fr t.fFree) n 0 0 (by omega) (by omega) (by omega) (by omega)
    have hm : G_ringlaw2_TwinTells_L3 n o a k g (mx (-1) t.fFree, sm t.fFree, 0) (fun j : Fin 64 => fr t.fFree (j.val : Int)) t n 0 0 = _ := hm
    rw [hm, Option.bind_some, count h6 t.fFree 0 (64 - 0) hv (fun x hx => (hv.1 x hx).2.2.1) (by omega)]
    simp only [Int.zero_add]
    have hq := lawMost (n := n) (t := t) (order := o) (at' := a) (z := sm t.fFree) (b := fun j : Fin 64 => fr t.fFree (j.val : Int)) (x1 := k) (x2 := g) (x3 := (mx (-1) t.fFree, sm t.fFree, 0)) hl n 0 (-1) (by omega) (by omega)
    have hq : G_ringlaw2_TwinTells_L4 n o a k g (mx (-1) t.fFree, sm t.fFree, 0) (sm t.fFree) t (fun j : Fin 64 => fr t.fFree (j.val : Int)) n (-1) 0 = _ := hq
    rw [hq, Option.bind_some, List.drop_zero]
    simp only [G_ringlaw2_TwinTells_C5, if_true, Option.bind_some, bne_self_eq_false, Bool.false_eq_true, if_false]
    rw [roomIs h0 h6 (by omega), Option.bind_some, give h0 h6 (by omega), Option.bind_some]
    simp only []
    have hg3 : G_ringlaw2_TwinTells_C7 n o k g (apt t.fOrder t.fFree ⟨a, o⟩) t a = some (.x0 false) := hg2
    rw [hg3, Option.bind_some]
    simp only [Bool.false_eq_true, if_false]
    exact hk2 _ rfl
  · rw [take_bad hl (by omega) hb, Option.bind_some, give_bad hl (by omega) hb, Option.bind_some, most_bad hl (by omega) hb, Option.bind_some, lawC1 (by omega) hx, Option.bind_some]
    simp only [Bool.false_eq_true, if_false]
    rw [twins hl (by omega), Option.bind_some, check hl (by omega), Option.bind_some, if_pos rfl, if_neg hb]
    unfold G_ringlaw2_TwinTells_C2
    unfold none' at sn ⊢
    rw [sn, Option.bind_some, if_pos rfl, if_pos rfl, if_pos rfl, Option.bind_some, if_pos rfl, if_pos rfl, if_pos rfl, if_pos rfl, Option.bind_some]
    simp
theorem law (t : S_twin_Twin) (o a : Int) (h : okS_twin_Twin t) : ∃ n, G_ringlaw2_TwinTells n t o a = some true := by
  have := h.2.1.1
  exact ⟨t.fFree.length + 20001, law_at (by omega) (by omega)⟩
end Go.Proofs.Ytpeakaeblibfmaa.twinTells
