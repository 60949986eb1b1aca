/- Areas: what is wrong with a list. -/
import Derived.Test.YtnmpnljjaoddhaaAr3
namespace Go.Proofs.Ytnmpnljjaoddhaa.areaT
open Go.RowKit help rep pv
set_option linter.all false

theorem areasOf_any (n : Nat) (l : List A) (hn : 1001 ≤ n) (hw : Nm 0 (-1) l) : G_ringref2_AreasOf n (pgF l) = some l := by
  have hl := wk_len (wk_of_nm hw)
  unfold G_ringref2_AreasOf
  have h := ao_l2 n l (by omega) hw n 0 (by omega) (by omega)
  have e : tr ((0 : Nat) : Int) l = [] := tr_nil (wk_of_nm hw) (by omega)
  rw [e] at h
  have h : G_ringref2_AreasOf_L2 n (pgF l) n 0 [] = _ := h
  rw [h]; rfl
theorem eqR_refl (x : A) : eqS_area_Area x x = true := by unfold eqS_area_Area; simp
theorem neqR (x : A) : eqRes .neq (eqS_area_Area x x) = false := by rw [eqR_refl]; rfl
theorem same_l (n : Nat) (l : List A) (hl : l.length ≤ 1000) : ∀ (k i : Nat), l.length - i < k → i ≤ l.length → G_ringref2_AreaSame_L1 n l l k (i : Int) = some .x1
  | 0, i, h, _ => by omega
  | k + 1, i, h, hi => by
    rw [G_ringref2_AreaSame_L1]
    by_cases hlt : (i : Int) < (l.length : Int)
    · obtain ⟨e, he⟩ := get_lt hlt
      rw [if_pos hlt, getI_nat, he, Option.bind_some, Option.bind_some, neqR, if_neg (by decide), wi_succ (by omega)]
      exact same_l n l hl k (i + 1) (by omega) (by omega)
    · rw [if_neg hlt]
theorem same_any (n : Nat) (l : List A) (hl : l.length ≤ 1000) (hn : 1001 ≤ n) : G_ringref2_AreaSame n l l = some true := by
  unfold G_ringref2_AreaSame
  have h : G_ringref2_AreaSame_L1 n l l n 0 = _ := same_l n l hl n 0 (by omega) (by omega)
  rw [if_pos rfl, h]; rfl
theorem same_ne (n : Nat) {a b : List A} (h : a.length ≠ b.length) : G_ringref2_AreaSame n a b = some false := by
  unfold G_ringref2_AreaSame
  rw [if_neg (by omega)]
theorem nm_snoc {b a : A} (ha : rt a) (h1 : b.fPage + b.fN ≤ a.fPage) (h2 : ¬ (a.fPage = b.fPage + b.fN ∧ a.fRights = b.fRights)) : ∀ {w : List A} {lo pr : Int}, Nm lo pr (w ++ [b]) → Nm lo pr (w ++ [b] ++ [a])
  | [], lo, pr, h => by
    obtain ⟨g1, g2, g3, g4, g5, g6, g7⟩ := h
    obtain ⟨r1, r2, r3, r4, r5, r6⟩ := ha
    exact ⟨g1, g2, g3, g4, g5, g6, h1, r3, by omega, r5, r6, h2, by show _ ≤ _; omega⟩
  | c :: w, lo, pr, h => by
    obtain ⟨g1, g2, g3, g4, g5, g6, g7⟩ := h
    exact ⟨g1, g2, g3, g4, g5, g6, nm_snoc ha h1 h2 g7⟩
theorem wk_snoc {b a : A} (ha : rt a) (h1 : b.fPage + b.fN ≤ a.fPage) : ∀ {w : List A} {lo : Int}, Wk lo (w ++ [b]) → Wk lo (w ++ [b] ++ [a])
  | [], lo, h => by
    obtain ⟨g1, g2, g3, g4, g5, g7⟩ := h
    obtain ⟨r1, r2, r3, r4, r5, r6⟩ := ha
    exact ⟨g1, g2, g3, g4, g5, h1, r3, by omega, r5, r6, by show _ ≤ _; omega⟩
  | c :: w, lo, h => by
    obtain ⟨g1, g2, g3, g4, g5, g7⟩ := h
    exact ⟨g1, g2, g3, g4, g5, wk_snoc ha h1 g7⟩
theorem nm_touch {b a : A} : ∀ {w : List A} {lo pr : Int}, Nm lo pr (w ++ [b] ++ [a]) → ¬ (a.fPage = b.fPage + b.fN ∧ a.fRights = b.fRights)
  | [], _, _, h => h.2.2.2.2.2.2.2.2.2.2.2.1
  | c :: w, _, _, h => nm_touch (w := w) h.2.2.2.2.2.2
theorem mg_same : ∀ {l : List A} {c : A}, (mg c l).length = l.length + 1 → mg c l = c :: l
  | [], _, _ => rfl
  | b :: l, c, h => by
    rw [mg] at h ⊢
    split at h
    · have := mg_len (l := l) (c := ⟨c.fPage, c.fN + b.fN, c.fRights⟩); simp at h; omega
    · rename_i hc
      rw [if_neg hc, mg_same (by simpa using h)]
theorem mgL_same {l : List A} (h : (mgL l).length = l.length) : mgL l = l := by
  cases l with
  | nil => rfl
  | cons a l => exact mg_same h
theorem mgL_len {l : List A} : (mgL l).length ≤ l.length := by
  cases l with
  | nil => simp [mgL]
  | cons a l => exact mg_len
theorem pgF_congr {l m : List A} (h : ∀ q, pg l q = pg m q) : pgF l = pgF m := by funext p; exact h _
theorem wk_mem : ∀ {l : List A} {lo : Int} {a : A}, Wk lo l → a ∈ l → lo ≤ a.fPage ∧ 1 ≤ a.fN ∧ a.fPage + a.fN ≤ 64
  | b :: l, lo, a, h, hm => by
    obtain ⟨h1, h2, h3, h4, h5, h6⟩ := h
    rcases List.mem_cons.1 hm with rfl | hm
    · exact ⟨h1, h2, h3⟩
    · have := wk_mem h6 hm; omega
/-- nothing to join -/
theorem mg_id : ∀ {l : List A} {c : A}, Nm (c.fPage + c.fN) c.fRights l → mg c l = c :: l
  | [], _, _ => rfl
  | b :: l, c, h => by
    rw [mg, if_neg (fun e => h.2.2.2.2.2.1 ⟨e.1.symm, e.2.symm⟩), mg_id h.2.2.2.2.2.2]
theorem mgL_id {l : List A} {lo pr : Int} (h : Nm lo pr l) : mgL l = l := by
  cases l with
  | nil => rfl
  | cons a l => exact mg_id h.2.2.2.2.2.2
theorem chk_l2 (n : Nat) (l : List A) (hl : l.length ≤ 64) (hn : 1001 ≤ n) : ∀ (k i : Nat), l.length - i < k → i ≤ l.length → Nm 0 (-1) (l.take i) →
    ∃ r : Int, G_area_Check_L2 n l k (i : Int) = some (if r = 0 then .x1 else .x0 r) ∧ G_ringref2_Areas_L2 n l k (i : Int) = some (if r = 0 then .x1 else .x0 r) ∧ (r = 0 → Nm 0 (-1) l)
  | 0, i, h, _, _ => by omega
  | k + 1, i, h, hi, hw => by
    rw [G_area_Check_L2, G_ringref2_Areas_L2]
    by_cases hlt : (i : Int) < (l.length : Int)
    · obtain ⟨a, ha⟩ := get_lt hlt
      rw [if_pos hlt, if_pos hlt, getI_nat, ha, Option.bind_some, Option.bind_some, right_any, is_any, Option.bind_some, Option.bind_some]
      by_cases hr : rt a
      · simp only [decide_eq_true hr, if_true]
        have htk : l.take (i + 1) = l.take i ++ [a] := by rw [List.take_add_one, ha]; rfl
        unfold G_ringref2_Areas_C1
        cases i with
        | zero =>
          have hnm : Nm 0 (-1) (l.take (0 + 1)) := by
            rw [htk]
            obtain ⟨r1, r2, r3, r4, r5, r6⟩ := hr
            exact ⟨r1, r3, by omega, r5, r6, fun e => by have := e.2; omega, by show _ ≤ _; omega⟩
          obtain ⟨r, q1, q2, q3⟩ := chk_l2 n l hl hn k (0 + 1) (by omega) (by omega) hnm
          rw [if_pos (show ((0 : Nat) : Int) = 0 from rfl), if_neg (show ¬ (((0 : Nat) : Int) > 0) by omega), Option.bind_some]
          simp only [Bool.false_eq_true, if_false]
          rw [wi_succ (by omega)]
          exact ⟨r, q1, q2, q3⟩
        | succ j =>
          obtain ⟨b, hb⟩ := get_lt (l := l) (i := j) (by omega)
          have e1 : wi .i64 (((j + 1 : Nat) : Int) - 1) = (j : Int) := by rw [wi64 (by omega) (by omega)]; omega
          have htj : l.take (j + 1) = l.take j ++ [b] := by rw [List.take_add_one, hb]; rfl
          rw [htj] at hw htk
          have hbr : 0 ≤ b.fPage + b.fN ∧ b.fPage + b.fN ≤ 64 := by
            have := wk_mem (wk_of_nm hw) (a := b) (by simp)
            omega
          have e2 : wi .i64 (b.fPage + b.fN) = b.fPage + b.fN := wi64 (by omega) (by omega)
          have hs : sub l 0 (wi .i64 (((j + 1 : Nat) : Int) + 1)) = some (l.take j ++ [b] ++ [a]) := by
            rw [wi_succ (by omega)]
            unfold sub; rw [if_pos ⟨by omega, by omega, by omega⟩, ← htk, Int.toNat_natCast]; rfl
          rw [if_neg (show ¬ (((j + 1 : Nat) : Int) = 0) by omega), if_pos (show ((j + 1 : Nat) : Int) > 0 by omega), e1, getI_nat, hb, Option.bind_some, Option.bind_some, Option.bind_some]
          unfold G_area_Check_C1
          rw [e2]
          by_cases c1 : a.fPage < b.fPage + b.fN
          · rw [if_pos c1, if_pos c1]
            exact ⟨3, rfl, rfl, fun h => by omega⟩
          · have hwk := wk_snoc hr (by omega : b.fPage + b.fN ≤ a.fPage) (wk_of_nm hw)
            rw [if_neg c1, if_neg c1, hs, Option.bind_some, pages_any n _ hn hwk, Option.bind_some, pgF_congr (fun q => (mgL_pg (q := q) hwk).symm), areasOf_any n _ hn (mgL_nm hwk), Option.bind_some, Option.bind_some]
            have hlw := wk_len hwk
            by_cases c2 : a.fPage = b.fPage + b.fN ∧ a.fRights = b.fRights
            · have hne : (mgL (l.take j ++ [b] ++ [a])).length ≠ (l.take j ++ [b] ++ [a]).length := fun e => by
                have hnm := mgL_nm hwk
                rw [mgL_same e] at hnm
                exact nm_touch hnm c2
              rw [if_pos c2.1, c2.2, same_ne n hne, Option.bind_some]
              exact ⟨3, by simp, by simp, fun h => by omega⟩
            · have hnm := nm_snoc hr (by omega : b.fPage + b.fN ≤ a.fPage) c2 hw
              have hmL : mgL (l.take j ++ [b] ++ [a]) = l.take j ++ [b] ++ [a] := mgL_id hnm
              rw [hmL, same_any n _ (by omega) hn, Option.bind_some]
              obtain ⟨r, q1, q2, q3⟩ := chk_l2 n l hl hn k (j + 1 + 1) (by omega) (by omega) (by rw [htk]; exact hnm)
              have hfin : (if a.fPage = b.fPage + b.fN then some (G_area_Check_C1_R.x0 (a.fRights == b.fRights)) else some (G_area_Check_C1_R.x0 false)) = some (.x0 false) := by
                by_cases c3 : a.fPage = b.fPage + b.fN
                · rw [if_pos c3]
                  have : (a.fRights == b.fRights) = false := by
                    rw [beq_eq_false_iff_ne]; exact fun e => c2 ⟨c3, e⟩
                  rw [this]
                · rw [if_neg c3]
              rw [hfin, Option.bind_some, Option.bind_some]
              simp only [Bool.not_true, Bool.false_eq_true, if_false]
              rw [wi_succ (by omega)]
              exact ⟨r, q1, q2, q3⟩
      · simp only [decide_eq_false hr, Bool.false_eq_true, if_false]
        exact ⟨1, rfl, rfl, fun h => by omega⟩
    · rw [if_neg hlt, if_neg hlt]
      exact ⟨0, rfl, rfl, fun _ => by rw [List.take_of_length_le (by omega)] at hw; exact hw⟩
theorem check_any (n : Nat) (l : List A) (hn : 1001 ≤ n) : ∃ r : Int, G_area_Check n l = some r ∧ G_ringref2_Areas n l = some r ∧ (r = 0 → Nm 0 (-1) l) := by
  unfold G_area_Check G_ringref2_Areas
  by_cases h1 : (l.length : Int) > 64
  · exact ⟨2, by rw [if_pos h1], by rw [if_pos h1], fun h => by omega⟩
  obtain ⟨r, q1, q2, q3⟩ := chk_l2 n l (by omega) hn n 0 (by omega) (by omega) (by simp [Nm])
  have q1 : G_area_Check_L2 n l n 0 = _ := q1
  have q2 : G_ringref2_Areas_L2 n l n 0 = _ := q2
  refine ⟨r, ?_, ?_, q3⟩
  · rw [if_neg h1, q1, Option.bind_some]
    by_cases h : r = 0
    · rw [if_pos h, h]
    · rw [if_neg h]
  · rw [if_neg h1, q2, Option.bind_some]
    by_cases h : r = 0
    · rw [if_pos h, h]
    · rw [if_neg h]
end Go.Proofs.Ytnmpnljjaoddhaa.areaT
