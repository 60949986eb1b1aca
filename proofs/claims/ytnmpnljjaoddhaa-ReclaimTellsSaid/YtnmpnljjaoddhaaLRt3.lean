/- The plain law of ReclaimTells. -/
import Derived.Test.YtnmpnljjaoddhaaLRt2
namespace Go.Proofs.Ytnmpnljjaoddhaa.reclaimT
open Go.RowKit help rep pv
set_option linter.all false

theorem mod_small {a b : Nat} (h : a < b) (hb : b ≤ 1000) : remI (a : Int) (b : Int) = (a : Int) := by
  rw [rem_nn (by omega)]; exact Int.emod_eq_of_lt (by omega) (by omega)
theorem mod_next {a b : Nat} (h : a < b) (hb : b ≤ 1000) : remI ((a + 1 : Nat) : Int) (b : Int) = ((if a + 1 < b then a + 1 else 0 : Nat) : Int) := by
  rw [rem_nn (by omega)]
  split
  · exact Int.emod_eq_of_lt (by omega) (by omega)
  · have : a + 1 = b := by omega
    rw [this]; simp
theorem set_mid {w : List S_reclaim_Item} {a : Nat} {v : S_reclaim_Item} (h : a < w.length) : w.set a v = w.take a ++ v :: w.drop (a + 1) := List.set_eq_take_append_cons_drop.trans (if_pos h)
theorem ring_next {w : List S_reclaim_Item} {a : Nat} {v : S_reclaim_Item} (h : a < w.length) :
    (w.set a v).drop (if a + 1 < w.length then a + 1 else 0) ++ (w.set a v).take (if a + 1 < w.length then a + 1 else 0) = (w.drop (a + 1) ++ w.take a) ++ [v] := by
  rw [set_mid h]
  have ht : (w.take a).length = a := by simp; omega
  by_cases h1 : a + 1 < w.length
  · rw [if_pos h1]
    have e1 : (w.take a ++ v :: w.drop (a + 1)).drop (a + 1) = w.drop (a + 1) := by
      rw [show w.take a ++ v :: w.drop (a + 1) = (w.take a ++ [v]) ++ w.drop (a + 1) by simp]
      exact List.drop_left' (by simp; omega)
    have e2 : (w.take a ++ v :: w.drop (a + 1)).take (a + 1) = w.take a ++ [v] := by
      rw [show w.take a ++ v :: w.drop (a + 1) = (w.take a ++ [v]) ++ w.drop (a + 1) by simp]
      exact List.take_left' (by simp; omega)
    rw [e1, e2]; simp
  · rw [if_neg h1, List.drop_of_length_le (i := a + 1) (by omega)]; simp
theorem sub_tail (x : S_reclaim_Item) (t : List S_reclaim_Item) : sub (x :: t) 1 ((x :: t).length : Int) = some t := by
  unfold sub; rw [if_pos ⟨by omega, by simp; omega, by omega⟩]; simp
theorem ids_set {w : List S_reclaim_Item} {a : Nat} {x : S_reclaim_Item} (h : w[a]? = some x) : ids (w.set a (upd x)) = ids w := by
  unfold ids
  rw [List.map_set]
  have hl : a < w.length := (List.getElem?_eq_some_iff.1 h).1
  apply List.ext_getElem?
  intro j
  by_cases e : a = j
  · subst e
    rw [List.getElem?_set_self (by simpa using hl), List.getElem?_map, h]; rfl
  · rw [List.getElem?_set_ne e]
/-- the two walks of the ring, side by side -/
theorem next_loop (n : Nat) (c : S_reclaim_Clock) (hn : 10001 ≤ n) (hc : c.fItems.length ≤ 64) : ∀ (k a m : Nat) (w : List S_reclaim_Item), a < w.length → w.length ≤ 64 → m + k ≤ 1000000 → ids c.fItems = ids w → (ids w).Nodup → stops k (w.drop a ++ w.take a) →
    ∃ id cnt hd out, out.length ≤ 64 ∧ G_reclaim_Next_L2 n k (a : Int) (m : Int) w = some (.x0 id cnt 0 hd out) ∧
      (G_ringref2_ClockNext_L3 n c k (m : Int) (w.drop a ++ w.take a) = some (.x0 id cnt hd out) ∨ (G_ringref2_ClockNext_L3 n c k (m : Int) (w.drop a ++ w.take a) = some (.x1 id cnt out) ∧ hd = 0))
  | 0, a, m, w, _, _, _, _, _, h => by cases h
  | k + 1, a, m, w, ha, hw, hm, hi, hd, hs => by
    have hx : w[a]? = some w[a] := List.getElem?_eq_getElem ha
    generalize w[a] = x at hx
    have hring : w.drop a ++ w.take a = x :: (w.drop (a + 1) ++ w.take a) := by rw [drop_cons hx]; rfl
    rw [hring] at hs ⊢
    have htl : (w.drop (a + 1) ++ w.take a).length + 1 = w.length := by simp; omega
    have hsub : sub (x :: (w.drop (a + 1) ++ w.take a)) 1 ((x :: (w.drop (a + 1) ++ w.take a)).length : Int) = some (w.drop (a + 1) ++ w.take a) := sub_tail _ _
    have hC : G_reclaim_Next_C1 n (a : Int) (m : Int) w = some (.x0 (goes x) w) := by
      unfold G_reclaim_Next_C1
      rw [Int.toNat_natCast, hx, Option.bind_some]
      unfold goes
      cases hp : x.fPinned <;> simp
    have hb : 0 ≤ (a : Int) ∧ a < w.length := ⟨by omega, ha⟩
    rw [G_reclaim_Next_L2, G_ringref2_ClockNext_L3]
    simp only [Int.toNat_natCast, hC, Option.bind_some, if_pos hb, hx]
    have hz0 : 0 ≤ (0 : Int) ∧ ((0 : Int)).toNat < (x :: (w.drop (a + 1) ++ w.take a)).length := ⟨Int.le_refl 0, Nat.succ_pos _⟩
    rw [if_pos hz0, show ((0 : Int)).toNat = 0 from rfl, List.getElem?_cons_zero, Option.bind_some, hsub, Option.bind_some]
    simp only [stops] at hs
    rcases hs with hg | ⟨hg, hs⟩
    · -- it goes
      have hg' := hg
      unfold goes at hg'
      rw [Bool.and_eq_true, Bool.not_eq_true', Bool.not_eq_true'] at hg'
      have hdel := G_slices_Delete_reclaim_Item_reclaim_Item_h_sp (n := n) (l := w) (i := a) (j := a + 1) (by omega) (by omega)
      have hol : (w.take a ++ w.drop (a + 1)).length + 1 = w.length := by simp; omega
      have h2 := g_l2 n (w.drop (a + 1) ++ w.take a) (m : Int) c x (by omega) hc hn n 0 [] (by omega) (by omega) (by simp)
      rw [List.drop_zero, List.nil_append, left hi hd hx] at h2
      have h2 : G_ringref2_ClockNext_L2 n (w.drop (a + 1) ++ w.take a) (m : Int) c x n 0 [] = _ := h2
      have hmx : maxI 1 (((w.take a ++ w.drop (a + 1)).length : Nat) : Int) = ((if w.length = 1 then 1 else w.length - 1 : Nat) : Int) := by
        unfold maxI; split <;> split <;> omega
      have hmx0 : (((if w.length = 1 then 1 else w.length - 1 : Nat) : Int)) ≠ 0 := by split <;> omega
      have hdo : (ids (w.take a ++ w.drop (a + 1))).Nodup := by
        have e : w.Perm (x :: (w.take a ++ w.drop (a + 1))) := by
          have e : w = w.take a ++ x :: w.drop (a + 1) := by rw [← drop_cons hx, List.take_append_drop]
          conv => lhs; rw [e]
          exact List.perm_middle
        have : (ids (x :: (w.take a ++ w.drop (a + 1)))).Nodup := (e.map _).nodup_iff.1 hd
        unfold ids at this
        rw [List.map_cons, List.nodup_cons] at this
        exact this.2
      simp only [hg, if_true]
      rw [wi_succ (by omega), hdel, Option.bind_some, hmx, if_pos hmx0]
      simp only [hg'.1, hg'.2, Bool.false_eq_true, if_false]
      rw [h2, Option.bind_some]
      try dsimp only
      refine ⟨_, _, _, _, by omega, rfl, ?_⟩
      by_cases h1 : ((w.drop (a + 1) ++ w.take a).length : Int) > 0
      · left
        rw [if_pos h1, if_neg (by omega : ¬ w.length = 1)]
        obtain ⟨z, hz⟩ : ∃ z, (w.drop (a + 1) ++ w.take a)[0]? = some z := ⟨_, List.getElem?_eq_getElem (by omega)⟩
        have hgz : getI (w.drop (a + 1) ++ w.take a) 0 = some z := (getI_nat _ 0).trans hz
        rw [hgz, Option.bind_some, itemat n ⟨w.take a ++ w.drop (a + 1), 0⟩ _ (show (w.take a ++ w.drop (a + 1)).length ≤ 10000 by omega) hn, Option.bind_some]
        have ht : (w.take a).length = a := by simp; omega
        have hplace : (w.take a ++ w.drop (a + 1))[if a + 1 < w.length then a else 0]? = some z := by
          by_cases h3 : a + 1 < w.length
          · rw [if_pos h3, List.getElem?_append_right (by omega), ht, Nat.sub_self]
            rw [List.getElem?_append_left (by simp; omega)] at hz
            exact hz
          · rw [if_neg h3, List.drop_of_length_le (i := a + 1) (by omega), List.append_nil]
            rw [List.drop_of_length_le (i := a + 1) (by omega), List.nil_append] at hz
            exact hz
        have hf := uniq_find hdo hplace
        have hf' : findI (pid z.fId) (S_reclaim_Clock.mk (w.take a ++ w.drop (a + 1)) 0).fItems = _ := hf
        rw [hf']
        congr 2
        by_cases h3 : a + 1 < w.length
        · rw [if_pos h3, mod_small (by omega) (by omega)]
        · rw [if_neg h3]
          have : a = w.length - 1 := by omega
          rw [this, rem_nn (by omega)]; simp
      · right
        have hw1 : w.length = 1 := by omega
        have ha0 : a = 0 := by omega
        rw [if_neg h1, if_pos hw1]
        refine ⟨rfl, ?_⟩
        rw [ha0]; rfl
    · -- it stays
      simp only [hg, Bool.false_eq_true, if_false]
      have ih := next_loop n c hn hc k (if a + 1 < w.length then a + 1 else 0) (m + 1) (w.set a (upd x)) (by rw [List.length_set]; split <;> omega) (by rw [List.length_set]; exact hw) (by omega) (by rw [ids_set hx]; exact hi) (by rw [ids_set hx]; exact hd) (by rw [ring_next ha]; exact hs)
      rw [ring_next ha] at ih
      have hlen : (((w.set a (upd x)).length : Nat) : Int) ≠ 0 := by rw [List.length_set]; omega
      have hrem : remI (wi .i64 ((a : Int) + 1)) (((w.set a (upd x)).length : Nat) : Int) = ((if a + 1 < w.length then a + 1 else 0 : Nat) : Int) := by
        rw [wi_succ (by omega), List.length_set, mod_next ha (by omega)]
      have hleft : (if x.fUsed = true then
          (if ((w.set a (S_reclaim_Item.mk x.fId x.fPinned x.fPinned)).length : Int) ≠ 0 then G_reclaim_Next_L2 n k (remI (wi .i64 ((a : Int) + 1)) ((w.set a (S_reclaim_Item.mk x.fId x.fPinned x.fPinned)).length : Int)) (wi .i64 ((m : Int) + 1)) (w.set a (S_reclaim_Item.mk x.fId x.fPinned x.fPinned)) else none)
          else (if ((w.set a (S_reclaim_Item.mk x.fId false x.fPinned)).length : Int) ≠ 0 then G_reclaim_Next_L2 n k (remI (wi .i64 ((a : Int) + 1)) ((w.set a (S_reclaim_Item.mk x.fId false x.fPinned)).length : Int)) (wi .i64 ((m : Int) + 1)) (w.set a (S_reclaim_Item.mk x.fId false x.fPinned)) else none))
          = G_reclaim_Next_L2 n k ((if a + 1 < w.length then a + 1 else 0 : Nat) : Int) ((m + 1 : Nat) : Int) (w.set a (upd x)) := by
        cases hu : x.fUsed with
        | true =>
          have e : S_reclaim_Item.mk x.fId x.fPinned x.fPinned = upd x := by unfold upd; rw [hu, Bool.true_and]
          rw [if_pos rfl, e, if_pos hlen, hrem, wi_succ (by omega)]
        | false =>
          have e : S_reclaim_Item.mk x.fId false x.fPinned = upd x := by unfold upd; rw [hu, Bool.false_and]
          rw [if_neg (by decide), e, if_pos hlen, hrem, wi_succ (by omega)]
      rw [hleft]
      have ha1 : app 16 ([] : List S_reclaim_Item) (w.drop (a + 1) ++ w.take a) = some (w.drop (a + 1) ++ w.take a) := app_some (by simp; omega) (by omega)
      have ha2 : ∀ v, app 16 (w.drop (a + 1) ++ w.take a) [v] = some ((w.drop (a + 1) ++ w.take a) ++ [v]) := fun v => app_some (by simp; omega) (by omega)
      rw [ha1, Option.bind_some, ha2, Option.bind_some, Option.bind_some, ha2, Option.bind_some, wi_succ (by omega)]
      have hright : ∀ (f : List S_reclaim_Item → Option G_ringref2_ClockNext_L3_R) (o : Option G_ringref2_ClockNext_L3_R), (if x.fPinned = true then f ((w.drop (a + 1) ++ w.take a) ++ [x]) else if x.fUsed = true then f ((w.drop (a + 1) ++ w.take a) ++ [S_reclaim_Item.mk x.fId false x.fPinned]) else o) = f ((w.drop (a + 1) ++ w.take a) ++ [upd x]) := by
        intro f o
        obtain ⟨xi, xu, xp⟩ := x
        unfold goes at hg
        cases xp <;> cases xu <;> simp [upd] at hg ⊢
      rw [hright (fun z => G_ringref2_ClockNext_L3 n c k ((m + 1 : Nat) : Int) z)]
      exact ih
end Go.Proofs.Ytnmpnljjaoddhaa.reclaimT
