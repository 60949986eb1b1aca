/- The plain law of ReclaimCounts: the loops. -/
import Derived.Test.YtnmpnljjaoddhaaSpRc
import Derived.Test.YtnmpnljjaoddhaaBel
namespace Go.Proofs.Ytnmpnljjaoddhaa.reclaim
open Go.RowKit help rep pv bel
set_option linter.all false

/-- how far off in a list: far ahd -/
theorem far_ahead (n : Nat) (l : List Int) (p : Int) (hl : l.length ≤ 60) : ∀ (k i : Nat) (m : Nat), l.length - i < k → i ≤ l.length → m ≤ i →
    G_reclaim_far_L2 n l p 1 k (m : Int) (i : Int) = some (.x0 ((m + ahd p (l.drop i) : Nat) : Int))
  | 0, i, m, h, _, _ => by omega
  | k + 1, i, m, h, hi, hm => by
    rw [G_reclaim_far_L2, G_reclaim_far_C1, if_pos (by omega)]
    by_cases hlt : (i : Int) < (l.length : Int)
    · obtain ⟨x, hx⟩ := get_lt hlt
      rw [if_pos hlt, getI_nat, hx, Option.bind_some, Option.bind_some, drop_cons hx]
      simp only [ahd]
      by_cases e : x = p
      · subst e; simp
      · have h1 : (x != p) = true := by simpa using e
        simp only [h1, if_true, if_neg e]
        rw [wi_succ (by omega), wi_succ (by omega), far_ahead n l p hl k (i + 1) (m + 1) (by omega) (by omega) (by omega)]
        congr 3; omega
    · rw [if_neg hlt, Option.bind_some, drop_end hlt]
      simp [ahd]
/-- far back -/
theorem far_back (n : Nat) (l : List Int) (p : Int) (hl : l.length ≤ 60) : ∀ (k i : Nat) (m : Nat), i < k → i ≤ l.length → m ≤ 60 - i →
    G_reclaim_far_L2 n l p (-1) k (m : Int) ((i : Int) - 1) = some (.x0 ((m + ahd p ((l.take i).reverse) : Nat) : Int))
  | 0, i, m, h, _, _ => by omega
  | k + 1, 0, m, h, hi, hm => by
    rw [G_reclaim_far_L2, G_reclaim_far_C1, if_neg (by omega)]
    simp [ahd]
  | k + 1, i + 1, m, h, hi, hm => by
    have hlt : (i : Int) < (l.length : Int) := by omega
    obtain ⟨x, hx⟩ := get_lt hlt
    have e0 : (((i + 1 : Nat) : Int) - 1) = (i : Int) := by omega
    rw [e0, G_reclaim_far_L2, G_reclaim_far_C1, if_pos (by omega), if_pos hlt, getI_nat, hx, Option.bind_some, Option.bind_some]
    have ht : (l.take (i + 1)).reverse = x :: (l.take i).reverse := by rw [List.take_add_one, hx]; simp
    rw [ht]; simp only [ahd]
    by_cases e : x = p
    · subst e; simp
    · have h1 : (x != p) = true := by simpa using e
      simp only [h1, if_true, if_neg e]
      have e2 : wi .i64 ((i : Int) + -1) = (i : Int) - 1 := by rw [wi64 (by omega) (by omega)]; omega
      rw [wi_succ (by omega), e2, far_back n l p hl k i (m + 1) (by omega) (by omega) (by omega)]
      congr 3; omega
/-- the first of the farthest -/
def isMost (w : List Int) (f : Int → Nat) (v : Nat) : Prop := ∃ p, w[v]? = some p ∧ (∀ (j : Nat) (q : Int), w[j]? = some q → f q ≤ f p) ∧ (∀ (j : Nat) (q : Int), j < v → w[j]? = some q → f q < f p)
theorem most_loop (n : Nat) (w : List Int) (g : Int → Option Int) (f : Int → Nat) (hw : w.length ≤ 1000) (hg : ∀ p, g p = some (f p : Int)) : ∀ (k i b : Nat), w.length - i < k → i ≤ w.length →
    (∃ p, w[b]? = some p ∧ (∀ (j : Nat) (q : Int), j < i → w[j]? = some q → f q ≤ f p) ∧ (∀ (j : Nat) (q : Int), j < b → w[j]? = some q → f q < f p)) → (b = i ∨ b < i) →
    ∃ v : Nat, G_reclaim_most_L1 n w g k (b : Int) (i : Int) = some (.x0 (v : Int)) ∧ isMost w f v
  | 0, i, b, h, _, _, _ => by omega
  | k + 1, i, b, h, hi, ⟨p, hp, h1, h2⟩, hb => by
    rw [G_reclaim_most_L1]
    by_cases hlt : (i : Int) < (w.length : Int)
    · obtain ⟨x, hx⟩ := get_lt hlt
      rw [if_pos hlt, getI_nat, hx, Option.bind_some, hg, Option.bind_some, getI_nat, hp, Option.bind_some, hg, Option.bind_some, wi_succ (by omega)]
      by_cases hgt : (f x : Int) > (f p : Int)
      · rw [if_pos hgt]
        refine most_loop n w g f hw hg k (i + 1) i (by omega) (by omega) ⟨x, hx, fun j q hj hq => ?_, fun j q hj hq => ?_⟩ (.inr (by omega))
        · rcases Nat.lt_or_ge j i with h' | h'
          · have := h1 j q h' hq; omega
          · have : j = i := by omega
            subst this; rw [hx] at hq; cases hq; exact Nat.le_refl _
        · have := h1 j q hj hq; omega
      · rw [if_neg hgt]
        refine most_loop n w g f hw hg k (i + 1) b (by omega) (by omega) ⟨p, hp, fun j q hj hq => ?_, h2⟩ (.inr (by omega))
        rcases Nat.lt_or_ge j i with h' | h'
        · exact h1 j q h' hq
        · have : j = i := by omega
          subst this; rw [hx] at hq; cases hq; omega
    · rw [if_neg hlt]
      refine ⟨b, rfl, p, hp, fun j q hq => ?_, h2⟩
      have : j < w.length := by rw [List.getElem?_eq_some_iff] at hq; exact hq.1
      exact h1 j q (by omega) hq
theorem most_any (n : Nat) (w : List Int) (g : Int → Option Int) (f : Int → Nat) (hw : w.length ≤ 1000) (hn : 1001 ≤ n) (h0 : 0 < w.length) (hg : ∀ p, g p = some (f p : Int)) :
    ∃ v : Nat, G_reclaim_most n w g = some (v : Int) ∧ isMost w f v := by
  unfold G_reclaim_most
  obtain ⟨v, h1, h2⟩ := most_loop n w g f hw hg n 0 0 (by omega) (by omega) ⟨w[0], List.getElem?_eq_getElem h0, fun j q hj => by omega, fun j q hj => by omega⟩ (.inl rfl)
  have h1 : G_reclaim_most_L1 n w g n 0 0 = some (.x0 (v : Int)) := h1
  rw [h1]
  exact ⟨v, rfl, h2⟩
theorem best_who (n : Nat) (l w : List Int) (i : Nat) (hl : l.length ≤ 60) (hw : w.length ≤ 1000) (hn : 1001 ≤ n) (h0 : 0 < w.length) (hi : i < l.length) :
    ∃ v : Nat, G_reclaim_Best_1 n w (i : Int) l = some (v : Int) ∧ isMost w (fun p => ahd p (l.drop (i + 1))) v := by
  unfold G_reclaim_Best_1
  obtain ⟨v, h1, h2⟩ := most_any n w (fun y0 => G_reclaim_Best_1_1 n y0 l (i : Int)) (fun p => ahd p (l.drop (i + 1))) hw hn h0 (fun p => by
    unfold G_reclaim_Best_1_1 G_reclaim_far
    have := far_ahead n l p hl n (i + 1) 0 (by omega) (by omega) (by omega)
    rw [wi_succ (by omega)]
    simp only [Int.ofNat_zero, Nat.zero_add] at this
    have this : G_reclaim_far_L2 n l p 1 n 0 ((i + 1 : Nat) : Int) = some (.x0 (ahd p (l.drop (i + 1)) : Int)) := this
    rw [this]; rfl)
  exact ⟨v, by rw [h1]; rfl, h2⟩
theorem lru_who (n : Nat) (l w : List Int) (i : Nat) (hl : l.length ≤ 60) (hw : w.length ≤ 1000) (hn : 1001 ≤ n) (h0 : 0 < w.length) (hi : i < l.length) :
    ∃ v : Nat, G_reclaim_Lru_1 n w (i : Int) l = some (v : Int) ∧ isMost w (fun p => ahd p ((l.take i).reverse)) v := by
  unfold G_reclaim_Lru_1
  obtain ⟨v, h1, h2⟩ := most_any n w (fun y0 => G_reclaim_Lru_1_1 n y0 l (i : Int)) (fun p => ahd p ((l.take i).reverse)) hw hn h0 (fun p => by
    unfold G_reclaim_Lru_1_1 G_reclaim_far
    have := far_back n l p hl n i 0 (by omega) (by omega) (by omega)
    have e2 : wi .i64 ((i : Int) + -1) = (i : Int) - 1 := by rw [wi64 (by omega) (by omega)]; omega
    rw [e2]
    simp only [Nat.zero_add] at this
    have this : G_reclaim_far_L2 n l p (-1) n 0 ((i : Int) - 1) = some (.x0 (ahd p ((l.take i).reverse) : Int)) := this
    rw [this]; rfl)
  exact ⟨v, by rw [h1]; rfl, h2⟩
/-- a step of faults -/
def stepF (room : Int) (who : List Int → Int → Option Int) (y : Int) (i : Nat) (c : Int) (w : List Int) (c' : Int) (w' : List Int) : Prop :=
  (y ∈ w ∧ c' = c ∧ w' = w) ∨
  (y ∉ w ∧ (w.length : Int) ≠ room ∧ c' = wi .i64 (c + 1) ∧ w' = w ++ [y]) ∨
  (y ∉ w ∧ (w.length : Int) = room ∧ c' = wi .i64 (c + 1) ∧ ∃ v : Nat, who w (i : Int) = some (v : Int) ∧ v < w.length ∧ w' = w.take v ++ w.drop (v + 1) ++ [y])
theorem faults_step (n : Nat) (room : Int) (who : List Int → Int → Option Int) (l w : List Int) (i : Nat) (y c : Int) (hn : 1001 ≤ n) (hw : w.length ≤ 100) (hy : l[i]? = some y)
    (hwho : (w.length : Int) = room → y ∉ w → ∃ v : Nat, who w (i : Int) = some (v : Int) ∧ v < w.length) :
    ∃ c' w', G_reclaim_faults_C1 n room who c l (i : Int) w = some (.x0 c' w') ∧ stepF room who y i c w c' w' := by
  unfold G_reclaim_faults_C1
  obtain ⟨r, h1, h2⟩ := G_slices_Contains_int_int_sp (n := n) (l := w) y (by omega) (by omega)
  rw [getI_nat, hy, Option.bind_some, h1, Option.bind_some]
  cases r with
  | true => exact ⟨c, w, by rw [if_pos rfl], .inl ⟨h2.1 rfl, rfl, rfl⟩⟩
  | false =>
    have hm : y ∉ w := fun h => by have := h2.2 h; cases this
    rw [if_neg (by decide)]
    by_cases hr : (w.length : Int) = room
    · obtain ⟨v, hv, hvl⟩ := hwho hr hm
      have hd := G_slices_Delete_int_int_h_sp (n := n) (l := w) (i := v) (j := v + 1) (by omega) (by omega)
      have ha : app 8 (w.take v ++ w.drop (v + 1)) [y] = some (w.take v ++ w.drop (v + 1) ++ [y]) := app_le (m := 1000) (by simp; omega) (by omega) (by omega)
      refine ⟨_, _, by rw [if_pos hr, hv, Option.bind_some, wi_succ (by omega), hd, Option.bind_some, ha, Option.bind_some], .inr (.inr ⟨hm, hr, rfl, v, hv, hvl, rfl⟩)⟩
    · have ha : app 8 w [y] = some (w ++ [y]) := app_le (m := 1000) (by simp; omega) (by omega) (by omega)
      exact ⟨_, _, by rw [if_neg hr, ha, Option.bind_some], .inr (.inl ⟨hm, hr, rfl, rfl⟩)⟩
theorem eraseIdx_eq {w : List Int} {v : Nat} {p : Int} (hw : w.Nodup) (hv : w[v]? = some p) : (w.take v ++ w.drop (v + 1)).Perm (w.erase p) := by
  have h1 : w.Perm (p :: (w.take v ++ w.drop (v + 1))) := by
    have : w = w.take v ++ p :: w.drop (v + 1) := by rw [← drop_cons hv, List.take_append_drop]
    exact (List.Perm.of_eq this).trans List.perm_middle
  exact (List.Perm.cons_inv (h1.symm.trans (List.perm_cons_erase (List.mem_of_getElem? hv))))
theorem Least.perm {r : Nat} {l S S' : List Int} {k : Nat} (p : S.Perm S') (h : Least r l S k) : Least r l S' k := ⟨h.1.perm p, fun j w => h.2 j (w.perm p.symm)⟩
theorem best_loop (n : Nat) (l : List Int) (room : Int) (hr : 1 ≤ room) (hr8 : room ≤ 8) (hl : l.length ≤ 60) (hn : 1001 ≤ n) : ∀ (k i : Nat) (c : Nat) (w : List Int), l.length - i < k → i ≤ l.length → c ≤ i → w.Nodup → (w.length : Int) ≤ room →
    ∃ m : Nat, G_reclaim_faults_L2 n room (fun (y0 : List Int) (y1 : Int) => G_reclaim_Best_1 n y0 y1 l) l k (c : Int) (i : Int) w = some (.x0 ((c + m : Nat) : Int)) ∧ Least room.toNat (l.drop i) w m ∧ m ≤ l.length - i
  | 0, i, c, w, h, _, _, _, _ => by omega
  | k + 1, i, c, w, h, hi, hc, hnd, hwl => by
    rw [G_reclaim_faults_L2]
    by_cases hlt : (i : Int) < (l.length : Int)
    · obtain ⟨y, hy⟩ := get_lt hlt
      have hbw : (w.length : Int) = room → y ∉ w → ∃ v : Nat, G_reclaim_Best_1 n w (i : Int) l = some (v : Int) ∧ v < w.length := fun h1 _ => by
        obtain ⟨v, h2, p, h3, _⟩ := best_who n l w i hl (by omega) hn (by omega) (by omega)
        exact ⟨v, h2, by rw [List.getElem?_eq_some_iff] at h3; exact h3.1⟩
      obtain ⟨c', w', h1, h2⟩ := faults_step n room (fun (y0 : List Int) (y1 : Int) => G_reclaim_Best_1 n y0 y1 l) l w i y (c : Int) hn (by omega) hy hbw
      rw [if_pos hlt, h1, Option.bind_some]
      dsimp only
      rw [wi_succ (by omega), drop_cons hy]
      rcases h2 with ⟨hm, rfl, rfl⟩ | ⟨hm, hr1, rfl, rfl⟩ | ⟨hm, hr1, rfl, v, hv, hvl, rfl⟩
      · obtain ⟨m, h3, h4, h5⟩ := best_loop n l room hr hr8 hl hn k (i + 1) c w' (by omega) (by omega) (by omega) hnd hwl
        exact ⟨m, h3, least_hit hm h4, by omega⟩
      · have hp : (w ++ [y]).Perm (y :: w) := List.perm_append_comm
        have hnd' : (w ++ [y]).Nodup := hp.nodup_iff.2 (List.nodup_cons.2 ⟨hm, hnd⟩)
        obtain ⟨m, h3, h4, h5⟩ := best_loop n l room hr hr8 hl hn k (i + 1) (c + 1) (w ++ [y]) (by omega) (by omega) (by omega) hnd' (by simp; omega)
        refine ⟨m + 1, by rw [wi_succ (by omega), h3]; congr 3; omega, least_fill hm (by omega) (Least.perm hp h4), by omega⟩
      · obtain ⟨v', hv', p, hp, hmax, _⟩ := best_who n l w i hl (by omega) hn (by omega) (by omega)
        have hvv : v' = v := by
          have h : G_reclaim_Best_1 n w (i : Int) l = some (v : Int) := hv
          rw [hv'] at h; have := Option.some.inj h; omega
        subst hvv
        have hpe := eraseIdx_eq hnd hp
        have hpm : p ∈ w := List.mem_of_getElem? hp
        have hpp : (w.take v' ++ w.drop (v' + 1) ++ [y]).Perm (y :: w.erase p) := List.perm_append_comm.trans (hpe.cons _)
        have hnd' : (w.take v' ++ w.drop (v' + 1) ++ [y]).Nodup := hpp.nodup_iff.2 (List.nodup_cons.2 ⟨fun e => hm (List.mem_of_mem_erase e), hnd.erase p⟩)
        obtain ⟨m, h3, h4, h5⟩ := best_loop n l room hr hr8 hl hn k (i + 1) (c + 1) _ (by omega) (by omega) (by omega) hnd' (by rw [hpp.length_eq, List.length_cons, List.length_erase_of_mem hpm]; omega)
        refine ⟨m + 1, by rw [wi_succ (by omega), h3]; congr 3; omega, least_out hnd hm (by omega) hpm (fun a ha => ?_) (Least.perm hpp h4), by omega⟩
        obtain ⟨j, hj⟩ := List.getElem?_of_mem ha
        exact hmax j a hj
    · rw [if_neg hlt, drop_end hlt]
      exact ⟨0, by simp, least_nil, by omega⟩
end Go.Proofs.Ytnmpnljjaoddhaa.reclaim
