/- Areas: what each call answers. -/
import Derived.Test.YtnmpnljjaoddhaaAr4
namespace Go.Proofs.Ytnmpnljjaoddhaa.areaT
open Go.RowKit help rep pv
set_option linter.all false

theorem many_l (n : Nat) (f t : Int) (l : List A) (hf : 0 ≤ f ∧ f ≤ 64) (ht : 0 ≤ t ∧ t ≤ 64) (hl : l.length ≤ 64) : ∀ (k i : Nat) (c lo : Int), l.length - i < k → i ≤ l.length → 0 ≤ lo → Wk lo (l.drop i) → 0 ≤ c → c ≤ 64 * i →
    G_area_many_L1 n f t l k c (i : Int) = some (.x0 (c + mny f t (l.drop i)))
  | 0, i, c, lo, h, _, _, _, _, _ => by omega
  | k + 1, i, c, lo, h, hi, hlo, hw, hc, hc2 => by
    rw [G_area_many_L1]
    by_cases hlt : (i : Int) < (l.length : Int)
    · obtain ⟨⟨p, m, r⟩, ha⟩ := get_lt hlt
      rw [drop_cons ha] at hw ⊢
      obtain ⟨h1, h2, h3, h4, h5, h6⟩ := hw
      simp only at h1 h2 h3 h4 h5 h6
      rw [if_pos hlt, getI_nat, ha, Option.bind_some]
      simp only
      have e1 : wi .i64 (p + m) = p + m := wi64 (by omega) (by omega)
      have e2 : minI (p + m) t = min (p + m) t := by unfold minI; split <;> omega
      have e3 : maxI p f = max p f := by unfold maxI; split <;> omega
      have e4 : wi .i64 (min (p + m) t - max p f) = min (p + m) t - max p f := wi64 (by omega) (by omega)
      have e5 : maxI 0 (min (p + m) t - max p f) = max 0 (min (p + m) t - max p f) := by unfold maxI; split <;> omega
      have e6 : wi .i64 (c + max 0 (min (p + m) t - max p f)) = c + max 0 (min (p + m) t - max p f) := wi64 (by omega) (by omega)
      rw [e1, e2, e3, e4, e5, e6, wi_succ (by omega), many_l n f t l hf ht hl k (i + 1) _ (p + m) (by omega) (by omega) (by omega) h6 (by omega) (by omega), mny]
      congr 2
      simp only
      omega
    · rw [if_neg hlt, drop_end hlt]; simp [mny]
theorem many_any (n : Nat) (f t : Int) (l : List A) (hf : 0 ≤ f ∧ f ≤ 64) (ht : 0 ≤ t ∧ t ≤ 64) (hw : Wk 0 l) (hn : 1001 ≤ n) : G_area_many n l f t = some (mny f t l) := by
  have hl := wk_len hw
  unfold G_area_many
  have h := many_l n f t l hf ht (by omega) n 0 0 0 (by omega) (by omega) (by omega) (by rw [List.drop_zero]; exact hw) (by omega) (by omega)
  rw [List.drop_zero, Int.zero_add] at h
  have h : G_area_many_L1 n f t l n 0 0 = _ := h
  rw [h]; rfl
theorem cut_l (n : Nat) (f t : Int) (l : List A) (hf : 0 ≤ f ∧ f ≤ 64) (ht : 0 ≤ t ∧ t ≤ 64) (hl : l.length ≤ 64) : ∀ (k i : Nat) (w : List A) (lo : Int), l.length - i < k → i ≤ l.length → 0 ≤ lo → Wk lo (l.drop i) → w.length ≤ 2 * i →
    G_area_cut_h_L2 n f t l k (i : Int) w = some (.x0 (w ++ ct f t (l.drop i)))
  | 0, i, w, lo, h, _, _, _, _ => by omega
  | k + 1, i, w, lo, h, hi, hlo, hw, hwl => by
    rw [G_area_cut_h_L2]
    by_cases hlt : (i : Int) < (l.length : Int)
    · obtain ⟨⟨p, m, r⟩, ha⟩ := get_lt hlt
      rw [drop_cons ha] at hw ⊢
      obtain ⟨h1, h2, h3, h4, h5, h6⟩ := hw
      simp only at h1 h2 h3 h4 h5 h6
      have e1 : wi .i64 (p + m) = p + m := wi64 (by omega) (by omega)
      have e2 : minI (p + m) f = min (p + m) f := by unfold minI; split <;> omega
      have e3 : maxI p t = max p t := by unfold maxI; split <;> omega
      have e4 : wi .i64 (min (p + m) f - p) = min (p + m) f - p := wi64 (by omega) (by omega)
      have e5 : wi .i64 (p + m - max p t) = p + m - max p t := wi64 (by omega) (by omega)
      have happ : ∀ (v : List A) (x : A), v.length ≤ 1000 → app 24 v [x] = some (v ++ [x]) := fun v x hv => app_some (by simp; omega) (by omega)
      have hC : ∃ w', G_area_cut_h_C1 n f t l (i : Int) w = some (.x0 w') ∧ w'.length ≤ 2 * (i + 1) ∧ w' ++ ct f t (l.drop (i + 1)) = w ++ ct f t (⟨p, m, r⟩ :: l.drop (i + 1)) := by
        unfold G_area_cut_h_C1
        rw [getI_nat, ha, Option.bind_some, ct]
        simp only [e1, e2, e3, e4, e5]
        by_cases c1 : min (p + m) f - p > 0
        · rw [if_pos c1, if_pos c1, happ _ _ (by omega), Option.bind_some]
          by_cases c2 : p + m > max p t
          · rw [if_pos c2, if_pos c2, happ _ _ (by simp; omega), Option.bind_some]
            exact ⟨_, rfl, by simp; omega, by simp⟩
          · rw [if_neg c2, if_neg c2]
            exact ⟨_, rfl, by simp; omega, by simp⟩
        · rw [if_neg c1, if_neg c1]
          by_cases c2 : p + m > max p t
          · rw [if_pos c2, if_pos c2, happ _ _ (by omega), Option.bind_some]
            exact ⟨_, rfl, by simp; omega, by simp⟩
          · rw [if_neg c2, if_neg c2]
            exact ⟨_, rfl, by omega, by simp⟩
      obtain ⟨w', q1, q2, q3⟩ := hC
      rw [if_pos hlt, q1, Option.bind_some]
      dsimp only
      rw [wi_succ (by omega), cut_l n f t l hf ht hl k (i + 1) w' (p + m) (by omega) (by omega) (by omega) h6 q2, q3]
    · rw [if_neg hlt, drop_end hlt]; simp [ct]
theorem cut_any (n : Nat) (f t : Int) (l : List A) (hf : 0 ≤ f ∧ f ≤ 64) (ht : 0 ≤ t ∧ t ≤ 64) (hw : Wk 0 l) (hn : 1001 ≤ n) : G_area_cut_h n l f t = some (ct f t l) := by
  have hl := wk_len hw
  unfold G_area_cut_h
  have h := cut_l n f t l hf ht (by omega) n 0 [] 0 (by omega) (by omega) (by omega) (by rw [List.drop_zero]; exact hw) (by simp)
  rw [List.drop_zero, List.nil_append] at h
  have h : G_area_cut_h_L2 n f t l n 0 [] = _ := h
  rw [h]; rfl
/-- where an area goes -/
theorem place_l (n : Nat) (a : A) (l : List A) (hl : l.length ≤ 1000) : ∀ (k i : Nat), l.length - i < k → i ≤ l.length → ∃ j : Nat, G_area_lay_h_L1 n a k (i : Int) l = some (.x0 (j : Int) l) ∧ i ≤ j ∧ j ≤ l.length ∧ ins a (l.drop i) = (l.drop i).take (j - i) ++ a :: l.drop j
  | 0, i, h, _ => by omega
  | k + 1, i, h, hi => by
    rw [G_area_lay_h_L1]
    by_cases hlt : (i : Int) < (l.length : Int)
    · obtain ⟨b, hb⟩ := get_lt hlt
      rw [if_pos hlt, if_pos ⟨by omega, by rw [Int.toNat_natCast]; omega⟩, Int.toNat_natCast, hb, Option.bind_some]
      by_cases c : b.fPage < a.fPage
      · obtain ⟨j, q1, q2, q3, q4⟩ := place_l n a l hl k (i + 1) (by omega) (by omega)
        rw [if_pos c, wi_succ (by omega)]
        refine ⟨j, q1, by omega, q3, ?_⟩
        rw [drop_cons hb, ins, if_pos c, q4, show j - i = (j - (i + 1)) + 1 by omega, List.take_succ_cons]; rfl
      · rw [if_neg c]
        refine ⟨i, rfl, Nat.le_refl _, hi, ?_⟩
        rw [Nat.sub_self, List.take_zero, List.nil_append, drop_cons hb, ins, if_neg c]
    · rw [if_neg hlt]
      exact ⟨i, rfl, Nat.le_refl _, hi, by rw [drop_end hlt]; simp [ins]⟩
theorem join_l (n : Nat) (l : List A) (hl : l.length ≤ 1000) : ∀ (k i : Nat) (w : List A) (c : A), l.length - i < k → i ≤ l.length → 0 ≤ c.fPage → 1 ≤ c.fN → c.fPage + c.fN ≤ 64 → Wk (c.fPage + c.fN) (l.drop i) → w.length + 1 ≤ i →
    G_area_lay_h_L3 n l k (i : Int) (w ++ [c]) l = some (.x0 (w ++ mg c (l.drop i)))
  | 0, i, w, c, h, _, _, _, _, _, _ => by omega
  | k + 1, i, w, c, h, hi, hc0, hc1, hc2, hw, hwl => by
    rw [G_area_lay_h_L3]
    by_cases hlt : (i : Int) < (l.length : Int)
    · obtain ⟨b, hb⟩ := get_lt hlt
      rw [drop_cons hb] at hw ⊢
      obtain ⟨h1, h2, h3, h4, h5, h6⟩ := hw
      have hlen : (w ++ [c]).length = w.length + 1 := by simp
      have e1 : wi .i64 (((w ++ [c]).length : Int) - 1) = (w.length : Int) := by rw [hlen, wi64 (by omega) (by omega)]; omega
      have e2 : wi .i64 (c.fPage + c.fN) = c.fPage + c.fN := wi64 (by omega) (by omega)
      have hbd : 0 ≤ (w.length : Int) ∧ w.length < (w ++ [c]).length := by rw [hlen]; omega
      have hx : (w ++ [c])[w.length]? = some c := by simp
      have hge : (w.length : Int) ≥ 0 := by omega
      have hC : G_area_lay_h_C2 n (w ++ [c]) l (i : Int) b l = some (.x0 (decide (c.fPage + c.fN = b.fPage ∧ c.fRights = b.fRights)) (w ++ [c]) l) := by
        unfold G_area_lay_h_C2
        rw [e1, if_pos hge, Int.toNat_natCast, if_pos hbd, hx, Option.bind_some, if_pos hbd, Option.bind_some, e2]
        by_cases c1 : c.fPage + c.fN = b.fPage
        · rw [if_pos c1, if_pos hbd, Option.bind_some]
          by_cases c2 : c.fRights = b.fRights
          · simp [c1, c2]
          · simp [c2]
        · rw [if_neg c1]; simp [c1]
      rw [if_pos hlt, if_pos ⟨by omega, by rw [Int.toNat_natCast]; omega⟩, Int.toNat_natCast, hb, Option.bind_some, hC, Option.bind_some]
      dsimp only
      rw [mg, wi_succ (by omega)]
      by_cases c1 : c.fPage + c.fN = b.fPage ∧ c.fRights = b.fRights
      · have e3 : wi .i64 (c.fN + b.fN) = c.fN + b.fN := wi64 (by omega) (by omega)
        have hs : (w ++ [c]).set w.length ⟨c.fPage, c.fN + b.fN, c.fRights⟩ = w ++ [⟨c.fPage, c.fN + b.fN, c.fRights⟩] := by rw [List.set_append_right _ _ (Nat.le_refl _)]; simp
        have e4 : c.fPage + (c.fN + b.fN) = b.fPage + b.fN := by omega
        rw [decide_eq_true c1, if_pos rfl, if_pos c1, e1, Int.toNat_natCast, if_pos hbd, hx, Option.bind_some, if_pos hbd, Option.bind_some, e3, hs]
        exact join_l n l hl k (i + 1) w ⟨c.fPage, c.fN + b.fN, c.fRights⟩ (by omega) (by omega) hc0 (show 1 ≤ c.fN + b.fN by omega) (show c.fPage + (c.fN + b.fN) ≤ 64 by omega) (show Wk (c.fPage + (c.fN + b.fN)) _ by rw [e4]; exact h6) (by omega)
      · have ha : app 24 (w ++ [c]) [b] = some (w ++ [c] ++ [b]) := app_some (by simp; omega) (by omega)
        rw [decide_eq_false c1, if_neg (by decide), if_neg c1, ha, Option.bind_some, join_l n l hl k (i + 1) (w ++ [c]) b (by omega) (by omega) (by omega) h2 h3 h6 (by simp; omega)]
        simp
    · rw [if_neg hlt, drop_end hlt]; simp [mg]
theorem lay_any (n : Nat) (a : A) (l : List A) (hn : 1001 ≤ n) (hl : l.length ≤ 200) (hw : Wk 0 (ins a l)) : G_area_lay_h n l a = some (mgL (ins a l)) := by
  unfold G_area_lay_h
  obtain ⟨j, q1, _, q3, q4⟩ := place_l n a l (by omega) n 0 (by omega) (by omega)
  rw [List.drop_zero, Nat.sub_zero] at q4
  have q1 : G_area_lay_h_L1 n a n 0 l = _ := q1
  have hins : G_slices_Insert_area_Area_area_Area_h n l (j : Int) [a] = some (ins a l) := by
    unfold G_slices_Insert_area_Area_area_Area_h insI
    rw [if_pos ⟨by omega, by omega, by simp; omega, by simp; omega⟩, Int.toNat_natCast, q4]; simp
  rw [q1, Option.bind_some]
  dsimp only
  rw [hins, Option.bind_some]
  have hil : (ins a l).length = l.length + 1 := by rw [q4]; simp; omega
  generalize ins a l = L at *
  cases L with
  | nil => simp at hil
  | cons b m =>
    obtain ⟨h1, h2, h3, h4, h5, h6⟩ := hw
    obtain ⟨n', rfl⟩ : ∃ n', n = n' + 1 := ⟨n - 1, by omega⟩
    have hstep : G_area_lay_h_L3 (n' + 1) (b :: m) (n' + 1) 0 [] (b :: m) = G_area_lay_h_L3 (n' + 1) (b :: m) n' ((0 + 1 : Nat) : Int) ([] ++ [b]) (b :: m) := by
      rw [G_area_lay_h_L3]
      have hC : G_area_lay_h_C2 (n' + 1) [] (b :: m) 0 b (b :: m) = some (.x0 false [] (b :: m)) := rfl
      have hp : (0 : Int) < ((b :: m).length : Int) := Int.natCast_pos.2 (Nat.succ_pos _)
      have hb : 0 ≤ (0 : Int) ∧ ((0 : Int)).toNat < (b :: m).length := ⟨Int.le_refl 0, Nat.succ_pos _⟩
      have hx : (b :: m)[((0 : Int)).toNat]? = some b := rfl
      have ha : app 24 ([] : List A) [b] = some [b] := app_some (by simp) (by omega)
      rw [if_pos hp, if_pos hb, hx, Option.bind_some, hC, Option.bind_some]
      dsimp only
      rw [if_neg (by decide), ha, Option.bind_some]
      rfl
    rw [hstep, join_l (n' + 1) (b :: m) (by omega) n' (0 + 1) [] b (by omega) (by omega) h1 h2 h3 (by exact h6) (by simp)]
    rfl
end Go.Proofs.Ytnmpnljjaoddhaa.areaT
