/- The plain law of TwinTells, fourth part: what is taken. -/
import Derived.Test.YtpeakaeblibfmaaLTw3
namespace Go.Proofs.Ytpeakaeblibfmaa.twinTells
open Go.RowKit help pv
set_option linter.all false

/-- the greater halves that are put back -/
def lefts (a : Int) : Nat → Int → List R
  | 0, _ => []
  | m + 1, k => ⟨a + pw k, k⟩ :: lefts a m (k + 1)
theorem lefts_len (a : Int) : ∀ (m : Nat) (k : Int), (lefts a m k).length = m
  | 0, _ => rfl
  | m + 1, k => by simp [lefts, lefts_len a m]
theorem takeL4 {n : Nat} {z : Int} {t : S_twin_Twin} {y : R} (h6 : y.fOrder ≤ 6) (ha : 0 ≤ y.fAt) (hb : y.fAt ≤ 64) : ∀ (m k : Nat) (x : Int) (w : List R), m < k → 0 ≤ x → x + m = y.fOrder → w.length + m ≤ 10000 →
    G_twin_Take_L4 n z t y k x w = some (.x0 (w ++ lefts y.fAt m x))
  | m, 0, x, w, h, _, _, _ => by omega
  | m, k + 1, x, w, h, h0, hx, hw => by
    rw [G_twin_Take_L4]
    cases m with
    | zero => rw [if_neg (by omega)]; simp [lefts]
    | succ m =>
      have p0 := pw_pos x
      have p2 := pw6 (show x ≤ 6 by omega)
      rw [if_pos (by omega), if_pos h0, shl1 h0 (by omega), wi64 (by omega) (by omega), app_le (m := 10000) (by simp; omega) (by omega) (by omega), Option.bind_some, wi64 (by omega) (by omega)]
      rw [takeL4 h6 ha hb m k (x + 1) _ (by omega) (by omega) (by omega) (by simp; omega)]
      simp [lefts]
theorem refL4 {n : Nat} {z o : Int} {t : S_twin_Twin} {y : R} (hn : 7 < n) (h6 : y.fOrder ≤ 6) (ha : 0 ≤ y.fAt) (hb : y.fAt ≤ 64) : ∀ (m k : Nat) (x : Int) (w : List R), m < k → 0 ≤ x → x + m = y.fOrder → w.length + m ≤ 10000 →
    G_ringref2_TwinTake_L4 n o t z y k x w = some (.x0 (w ++ lefts y.fAt m x))
  | m, 0, x, w, h, _, _, _ => by omega
  | m, k + 1, x, w, h, h0, hx, hw => by
    rw [G_ringref2_TwinTake_L4]
    cases m with
    | zero => rw [if_neg (by omega)]; simp [lefts]
    | succ m =>
      have p0 := pw_pos x
      have p2 := pw6 (show x ≤ 6 by omega)
      rw [if_pos (by omega), power h0 (by omega) hn, Option.bind_some, wi64 (by omega) (by omega), app_le (m := 10000) (by simp; omega) (by omega) (by omega), Option.bind_some, wi64 (by omega) (by omega)]
      rw [refL4 hn h6 ha hb m k (x + 1) _ (by omega) (by omega) (by omega) (by simp; omega)]
      simp [lefts]
/-- the best room so far, as a place and as a room -/
def Bst (l : List R) (o b : Int) (q : R) : Prop := (b = -1 ∧ q = ⟨0, 99⟩) ∨ ∃ j : Nat, b = (j : Int) ∧ l[j]? = some q ∧ o ≤ q.fOrder
theorem bestL {n : Nat} {t : S_twin_Twin} {o : Int} (hl : t.fFree.length < 4611686018427387903) (h6 : ∀ x ∈ t.fFree, x.fOrder ≤ 6) : ∀ (k i : Nat) (b : Int) (q : R), t.fFree.length - i < k → i ≤ t.fFree.length → Bst t.fFree o b q →
    ∃ b' q', G_twin_Take_L3 n o t k b (i : Int) = some (.x0 b') ∧ G_ringref2_TwinTake_L3 n o t k (i : Int) q = some (.x0 q') ∧ Bst t.fFree o b' q'
  | 0, i, b, q, h, _, _ => by omega
  | k + 1, i, b, q, h, hi, hb => by
    rw [G_twin_Take_L3, G_ringref2_TwinTake_L3]
    by_cases hlt : (i : Int) < (t.fFree.length : Int)
    · obtain ⟨x, hx⟩ := get_lt hlt
      have x6 := h6 x (List.mem_of_getElem? hx)
      rw [if_pos hlt, if_pos hlt, getI_nat, hx, Option.bind_some]
      unfold G_ringref2_TwinTake_C2 G_twin_Take_C2
      rw [getI_nat, hx, Option.bind_some, wi_succ (by omega)]
      by_cases c : x.fOrder ≥ o
      · rw [if_pos c, if_pos c]
        rcases hb with ⟨rfl, rfl⟩ | ⟨j, rfl, hj, ho⟩
        · rw [if_pos (by decide), if_pos (show x.fOrder < 99 by omega), Option.bind_some, Option.bind_some]
          simp only [if_true]
          exact bestL hl h6 k (i + 1) _ _ (by omega) (by omega) (.inr ⟨i, rfl, hx, c⟩)
        · rw [if_neg (by omega), getI_nat, hj, Option.bind_some, Option.bind_some]
          by_cases d : x.fOrder < q.fOrder
          · rw [if_pos d, Option.bind_some]
            simp only [d, decide_true, if_true]
            exact bestL hl h6 k (i + 1) _ _ (by omega) (by omega) (.inr ⟨i, rfl, hx, c⟩)
          · rw [if_neg d, Option.bind_some]
            simp only [d, decide_false, Bool.false_eq_true, if_false]
            exact bestL hl h6 k (i + 1) _ _ (by omega) (by omega) (.inr ⟨j, rfl, hj, ho⟩)
      · rw [if_neg c, if_neg c, Option.bind_some, Option.bind_some]
        simp only [Bool.false_eq_true, if_false]
        exact bestL hl h6 k (i + 1) _ _ (by omega) (by omega) hb
    · rw [if_neg hlt, if_neg hlt]
      exact ⟨b, q, rfl, rfl, hb⟩
/-- a room's place taken by others -/
def fm (z : R) (ys : List R) (l : List R) : List R := l.flatMap (fun r => if (eqRes .neq (eqS_twin_Room r z)) = true then [r] else ys)
theorem fm_ne {z : R} {ys : List R} : ∀ (l : List R), (∀ x ∈ l, x ≠ z) → fm z ys l = l
  | [], _ => rfl
  | x :: l, h => by
    have ih := fm_ne (z := z) (ys := ys) l (fun y hy => h y (List.mem_cons_of_mem _ hy))
    unfold fm at ih ⊢
    rw [List.flatMap_cons, if_pos (neR (h x (List.mem_cons_self ..))), ih]; rfl
theorem fm_at {o : Int} {z : R} {ys l : List R} {j : Nat} (hv : V o l) (hj : l[j]? = some z) : fm z ys l = l.take j ++ ys ++ l.drop (j + 1) := by
  have e : l = l.take j ++ z :: l.drop (j + 1) := by rw [← drop_cons hj, List.take_append_drop]
  have hp := hv.2
  rw [e, List.pairwise_append] at hp
  obtain ⟨_, hp2, hp3⟩ := hp
  have h1 : fm z ys (l.take j) = l.take j := fm_ne _ (fun x hx => by
    rintro rfl
    have := hp3 x hx x (List.mem_cons_self ..)
    unfold before at this
    have := pw_pos x.fOrder
    omega)
  have h2 : fm z ys (l.drop (j + 1)) = l.drop (j + 1) := fm_ne _ (fun x hx => by
    rintro rfl
    have := (List.pairwise_cons.1 hp2).1 x hx
    unfold before at this
    have := pw_pos x.fOrder
    omega)
  have h3 : fm z ys (l.take j ++ z :: l.drop (j + 1)) = fm z ys (l.take j) ++ (ys ++ fm z ys (l.drop (j + 1))) := by
    unfold fm
    rw [List.flatMap_append, List.flatMap_cons, eqR, if_neg (by decide)]
  rw [← e] at h3
  rw [h3, h1, h2, List.append_assoc]
theorem refL5 {n : Nat} {t : S_twin_Twin} {o : Int} {z : R} (hn : 7 < n) (ho : 0 ≤ o) (hoz : o ≤ z.fOrder) (h6 : z.fOrder ≤ 6) (ha : 0 ≤ z.fAt) (hb : z.fAt ≤ 64) (hl : t.fFree.length ≤ 64) : ∀ (k i : Nat) (w : List R), t.fFree.length - i < k → i ≤ t.fFree.length → w.length ≤ 8 * i →
    G_ringref2_TwinTake_L5 n o t z k (i : Int) w = some (.x0 (w ++ fm z (lefts z.fAt (z.fOrder - o).toNat o) (t.fFree.drop i)))
  | 0, i, w, h, _, _ => by omega
  | k + 1, i, w, h, hi, hw => by
    rw [G_ringref2_TwinTake_L5]
    by_cases hlt : (i : Int) < (t.fFree.length : Int)
    · obtain ⟨x, hx⟩ := get_lt hlt
      rw [if_pos hlt, getI_nat, hx, Option.bind_some, drop_cons hx, wi_succ (by omega)]
      by_cases c : (eqRes .neq (eqS_twin_Room x z)) = true
      · rw [if_pos c, app_le (m := 10000) (by simp; omega) (by omega) (by omega), Option.bind_some, refL5 hn ho hoz h6 ha hb hl k (i + 1) _ (by omega) (by omega) (by simp; omega)]
        simp only [fm, List.flatMap_cons, if_pos c, List.append_assoc]
      · rw [if_neg c, refL4 hn h6 ha hb (z.fOrder - o).toNat n o w (by omega) ho (by omega) (by omega), Option.bind_some]
        simp only []
        rw [refL5 hn ho hoz h6 ha hb hl k (i + 1) _ (by omega) (by omega) (by simp [lefts_len]; omega)]
        simp only [fm, List.flatMap_cons, if_neg c, List.append_assoc]
    · rw [if_neg hlt, drop_end hlt]; simp [fm]
def none' : S_twin_Twin := ⟨0, []⟩
theorem take_bad {n : Nat} {t : S_twin_Twin} {o : Int} (hl : t.fFree.length < 4611686018427387903) (hn : t.fFree.length < n) (hb : bad t ≠ 0) : G_twin_Take n t o = some (none', 0, bad t) := by
  unfold G_twin_Take
  rw [check hl hn, Option.bind_some, if_neg hb]; rfl
theorem take_out {n : Nat} {t : S_twin_Twin} {o : Int} (hl : t.fFree.length < 4611686018427387903) (hn : t.fFree.length < n) (hb : bad t = 0) (ho : ¬ (0 ≤ o ∧ o ≤ t.fOrder)) : G_twin_Take n t o = some (none', 0, 1) := by
  unfold G_twin_Take G_twin_Take_C1
  rw [check hl hn, Option.bind_some, if_pos hb]
  by_cases c : o < 0
  · rw [if_pos c, Option.bind_some]; rfl
  · rw [if_neg c, Option.bind_some]
    have : o > t.fOrder := by omega
    simp [this, none']
theorem take_in {n : Nat} {t : S_twin_Twin} {o : Int} (hn : 200 < n) (hb : bad t = 0) (h6 : t.fOrder ≤ 6) (hv : V t.fOrder t.fFree) (ho : 0 ≤ o) (ho2 : o ≤ t.fOrder) :
    (G_twin_Take n t o = some (none', 0, 6) ∧ G_ringref2_TwinTake n t o = some (none', 0, false)) ∨
    ∃ l a, l.length ≤ 10000 ∧ G_twin_Take n t o = some (⟨t.fOrder, l⟩, a, 0) ∧ G_ringref2_TwinTake n t o = some (⟨t.fOrder, l⟩, a, true) := by
  have hl := V_len h6 hv
  obtain ⟨b, q, e1, e2, e3⟩ := bestL (n := n) (o := o) (t := t) (by omega) (fun x hx => by have := (hv.1 x hx).2.1; omega) n 0 (-1) ⟨0, 99⟩ (by omega) (by omega) (.inl ⟨rfl, rfl⟩)
  have e1 : G_twin_Take_L3 n o t n (-1) 0 = _ := e1
  have e2 : G_ringref2_TwinTake_L3 n o t n 0 ⟨0, 99⟩ = _ := e2
  unfold G_twin_Take G_ringref2_TwinTake G_twin_Take_C1
  rw [check (by omega) (by omega), Option.bind_some, if_pos hb, if_neg (by omega), Option.bind_some]
  simp only [show ¬ o > t.fOrder by omega, decide_false, Bool.false_eq_true, if_false]
  rw [e1, e2, Option.bind_some, Option.bind_some]
  simp only []
  rcases e3 with ⟨rfl, rfl⟩ | ⟨j, rfl, hj, hq⟩
  · left
    simp [none']
  · right
    obtain ⟨q0, q1, q2, q3, q4⟩ := hv.1 q (List.mem_of_getElem? hj)
    have p0 := pw_pos q.fOrder
    have p2 := pw6 h6
    have hjl := (List.getElem?_eq_some_iff.1 hj).1
    have hm := lefts_len q.fAt (q.fOrder - o).toNat o
    refine ⟨t.fFree.take j ++ lefts q.fAt (q.fOrder - o).toNat o ++ t.fFree.drop (j + 1), q.fAt, ?_, ?_, ?_⟩
    · simp [hm]; omega
    · rw [if_neg (by omega), getI_nat, hj, Option.bind_some, takeL4 (by omega) q2 (by omega) (q.fOrder - o).toNat n o [] (by omega) ho (by omega) (by simp; omega), Option.bind_some]
      simp only [List.nil_append]
      unfold G_slices_Clone_twin_Room_twin_Room G_slices_Replace_twin_Room_twin_Room_h
      rw [app_le (m := 10000) (by simp; omega) (by omega) (by omega), Option.bind_some, wi_succ (by omega)]
      unfold repI
      rw [List.nil_append, hm, if_pos (by omega), Option.bind_some]
      simp
    · rw [if_neg (by omega)]
      have h5 := refL5 (n := n) (t := t) (o := o) (z := q) (by omega) ho hq (by omega) q2 (by omega) hl n 0 [] (by omega) (by omega) (by simp)
      have h5 : G_ringref2_TwinTake_L5 n o t q n 0 [] = _ := h5
      rw [h5, Option.bind_some]
      simp only [List.nil_append, List.drop_zero]
      rw [fm_at hv hj]
end Go.Proofs.Ytpeakaeblibfmaa.twinTells
