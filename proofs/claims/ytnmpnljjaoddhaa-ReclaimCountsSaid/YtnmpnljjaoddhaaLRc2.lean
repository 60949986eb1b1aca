/- The plain law of ReclaimCounts: the reference's lists; oldest and longest unused. -/
import Derived.Test.YtnmpnljjaoddhaaLRc
namespace Go.Proofs.Ytnmpnljjaoddhaa.reclaim
open Go.RowKit help rep pv bel
set_option linter.all false

theorem sub_to {l : List Int} {j : Nat} (hj : j ≤ l.length) : sub l 0 (j : Int) = some (l.take j) := by
  unfold sub; rw [if_pos ⟨by omega, by omega, by omega⟩]; simp
theorem sub_from {l : List Int} {j : Nat} (hj : j ≤ l.length) : sub l (j : Int) (l.length : Int) = some (l.drop j) := by
  unfold sub; rw [if_pos ⟨by omega, by omega, by omega⟩]; simp
theorem rl_search (n : Nat) (room : Int) (t : Bool) (c : Int) (y : Int) (l : List Int) (ix : Int) (w : List Int) (hw : w.length ≤ 1000) : ∀ (k i : Nat) (a : Int), w.length - i < k → i ≤ w.length →
    ∃ b, G_ringref2_RefList_L1 n room t c y l ix w k a (i : Int) w = some (.x0 b w) ∧ ((y ∉ w.drop i ∧ b = a) ∨ ∃ j : Nat, b = (j : Int) ∧ w[j]? = some y)
  | 0, i, a, h, _ => by omega
  | k + 1, i, a, h, hi => by
    rw [G_ringref2_RefList_L1]
    by_cases hlt : (i : Int) < (w.length : Int)
    · obtain ⟨x, hx⟩ := get_lt hlt
      rw [if_pos hlt, if_pos ⟨by omega, by omega⟩, Int.toNat_natCast, hx, Option.bind_some, wi_succ (by omega), drop_cons hx]
      by_cases e : x = y
      · subst e
        rw [if_pos rfl]
        obtain ⟨b, h1, h2⟩ := rl_search n room t c x l ix w hw k (i + 1) (i : Int) (by omega) (by omega)
        refine ⟨b, h1, .inr ?_⟩
        rcases h2 with ⟨_, rfl⟩ | h2
        · exact ⟨i, rfl, hx⟩
        · exact h2
      · rw [if_neg e]
        obtain ⟨b, h1, h2⟩ := rl_search n room t c y l ix w hw k (i + 1) a (by omega) (by omega)
        refine ⟨b, h1, ?_⟩
        rcases h2 with ⟨h3, h4⟩ | h2
        · exact .inl ⟨by rw [List.mem_cons, not_or]; exact ⟨fun e' => e e'.symm, h3⟩, h4⟩
        · exact .inr h2
    · rw [if_neg hlt, drop_end hlt]
      exact ⟨a, rfl, .inl ⟨by simp, rfl⟩⟩
/-- a step of the reference's list -/
def stepR (room : Int) (t : Bool) (y c : Int) (w : List Int) (c' : Int) (w' : List Int) : Prop :=
  (y ∉ w ∧ (w.length : Int) = room ∧ c' = wi .i64 (c + 1) ∧ w' = w.drop 1 ++ [y]) ∨
  (y ∉ w ∧ (w.length : Int) ≠ room ∧ c' = wi .i64 (c + 1) ∧ w' = w ++ [y]) ∨
  (y ∈ w ∧ t = true ∧ c' = c ∧ ∃ j : Nat, w[j]? = some y ∧ w' = w.take j ++ w.drop (j + 1) ++ [y]) ∨
  (y ∈ w ∧ t = false ∧ c' = c ∧ w' = w)
theorem list_step (n : Nat) (room : Int) (t : Bool) (y c : Int) (l : List Int) (ix : Int) (w : List Int) (hr : 1 ≤ room) (hw : w.length ≤ 1000) (hn : 1001 ≤ n) :
    ∃ b c' w', G_ringref2_RefList_L1 n room t c y l ix w n (-1) 0 w = some (.x0 b w) ∧ G_ringref2_RefList_C2 n room t c y b l ix w = some (.x0 c' w') ∧ stepR room t y c w c' w' := by
  obtain ⟨b, h1, h2⟩ := rl_search n room t c y l ix w hw n 0 (-1) (by omega) (by omega)
  refine ⟨b, ?_⟩
  have h1 : G_ringref2_RefList_L1 n room t c y l ix w n (-1) 0 w = some (.x0 b w) := h1
  unfold G_ringref2_RefList_C2
  rcases h2 with ⟨hm, rfl⟩ | ⟨j, rfl, hj⟩
  · rw [List.drop_zero] at hm
    rw [if_pos (by omega)]
    by_cases hr' : (w.length : Int) = room
    · have e1 : sub w 1 (w.length : Int) = some (w.drop 1) := sub_from (j := 1) (by omega)
      have e2 : app 8 ([] : List Int) (w.drop 1) = some (w.drop 1) := app_le (m := 1000) (by simp; omega) (by omega) (by omega)
      have e3 : app 8 (w.drop 1) [y] = some (w.drop 1 ++ [y]) := app_le (m := 2000) (by simp; omega) (by omega) (by omega)
      exact ⟨_, _, h1, by rw [if_pos hr', e1, Option.bind_some, e2, Option.bind_some, e3, Option.bind_some], .inl ⟨hm, hr', rfl, rfl⟩⟩
    · have e2 : app 8 ([] : List Int) w = some w := app_le (m := 1000) (by simp; omega) (by omega) (by omega)
      have e3 : app 8 w [y] = some (w ++ [y]) := app_le (m := 2000) (by simp; omega) (by omega) (by omega)
      exact ⟨_, _, h1, by rw [if_neg hr', e2, Option.bind_some, e3, Option.bind_some], .inr (.inl ⟨hm, hr', rfl, rfl⟩)⟩
  · have hjl : j < w.length := by rw [List.getElem?_eq_some_iff] at hj; exact hj.1
    have hm : y ∈ w := List.mem_of_getElem? hj
    rw [if_neg (by omega)]
    cases t with
    | false => exact ⟨_, _, h1, by rw [if_neg (by decide)], .inr (.inr (.inr ⟨hm, rfl, rfl, rfl⟩))⟩
    | true =>
      have e1 := sub_to (l := w) (j := j) (by omega)
      have e4 := sub_from (l := w) (j := j + 1) (by omega)
      have e2 : app 8 ([] : List Int) (w.take j) = some (w.take j) := app_le (m := 1000) (by simp; omega) (by omega) (by omega)
      have e5 : app 8 (w.take j) (w.drop (j + 1)) = some (w.take j ++ w.drop (j + 1)) := app_le (m := 2000) (by simp; omega) (by omega) (by omega)
      have e3 : app 8 (w.take j ++ w.drop (j + 1)) [y] = some (w.take j ++ w.drop (j + 1) ++ [y]) := app_le (m := 3000) (by simp; omega) (by omega) (by omega)
      exact ⟨_, _, h1, by rw [if_pos rfl, e1, Option.bind_some, e2, Option.bind_some, wi_succ (by omega), e4, Option.bind_some, e5, Option.bind_some, e3, Option.bind_some], .inr (.inr (.inl ⟨hm, rfl, rfl, j, hj, rfl⟩))⟩
/-- two walks of one list, side by side -/
theorem both (n : Nat) (room : Int) (who : List Int → Int → Option Int) (t : Bool) (l : List Int) (hr : 1 ≤ room) (hr8 : room ≤ 8) (hl : l.length ≤ 60) (hn : 1001 ≤ n) (I : Nat → List Int → List Int → Prop)
    (hlen : ∀ i w w', I i w w' → (w.length : Int) ≤ room ∧ (w'.length : Int) ≤ room)
    (hwho : ∀ i w w', i < l.length → I i w w' → (w.length : Int) = room → ∃ v : Nat, who w (i : Int) = some (v : Int) ∧ v < w.length)
    (hI : ∀ i w w' y c wa wb ca cb, l[i]? = some y → I i w w' → stepF room who y i c w ca wa → stepR room t y c w' cb wb → ca = cb ∧ I (i + 1) wa wb) :
    ∀ (k i : Nat) (c : Int) (w w' : List Int), l.length - i < k → i ≤ l.length → I i w w' →
    ∃ m, G_reclaim_faults_L2 n room who l k c (i : Int) w = some (.x0 m) ∧ G_ringref2_RefList_L3 n room t l k c (i : Int) w' = some (.x0 m)
  | 0, i, c, w, w', h, _, _ => by omega
  | k + 1, i, c, w, w', h, hi, hI0 => by
    rw [G_reclaim_faults_L2, G_ringref2_RefList_L3]
    obtain ⟨hw, hw'⟩ := hlen i w w' hI0
    by_cases hlt : (i : Int) < (l.length : Int)
    · obtain ⟨y, hy⟩ := get_lt hlt
      obtain ⟨ca, wa, h1, h2⟩ := faults_step n room who l w i y c hn (by omega) hy (fun h3 _ => hwho i w w' (by omega) hI0 h3)
      obtain ⟨b, cb, wb, h3, h4, h5⟩ := list_step n room t y c l (i : Int) w' hr (by omega) hn
      obtain ⟨rfl, hI1⟩ := hI i w w' y c wa wb ca cb hy hI0 h2 h5
      rw [if_pos hlt, if_pos hlt, h1, Option.bind_some, getI_nat, hy, Option.bind_some, h3, Option.bind_some]
      dsimp only
      rw [h4, Option.bind_some]
      dsimp only
      rw [wi_succ (by omega)]
      exact both n room who t l hr hr8 hl hn I hlen hwho hI k (i + 1) ca wa wb (by omega) (by omega) hI1
    · rw [if_neg hlt, if_neg hlt]; exact ⟨c, rfl, rfl⟩
theorem fifo_eq (n : Nat) (room : Int) (l : List Int) (hr : 1 ≤ room) (hr8 : room ≤ 8) (hl : l.length ≤ 60) (hn : 1001 ≤ n) :
    ∃ m, G_reclaim_faults n l room (fun (y0 : List Int) (y1 : Int) => G_reclaim_Fifo_1 n y0 y1) = some m ∧ G_ringref2_RefList n l room false = some m := by
  obtain ⟨m, h1, h2⟩ := both n room (fun (y0 : List Int) (y1 : Int) => G_reclaim_Fifo_1 n y0 y1) false l hr hr8 hl hn (fun _ w w' => w = w' ∧ (w.length : Int) ≤ room)
    (fun i w w' h => ⟨h.2, by rw [← h.1]; exact h.2⟩)
    (fun i w w' _ h h3 => ⟨0, rfl, by omega⟩)
    (fun i w w' y c wa wb ca cb hy h h1 h2 => by
      obtain ⟨rfl, hw⟩ := h
      rcases h1 with ⟨a1, rfl, rfl⟩ | ⟨a1, a2, rfl, rfl⟩ | ⟨a1, a2, rfl, v, hv, hvl, rfl⟩ <;> rcases h2 with ⟨b1, b2, rfl, rfl⟩ | ⟨b1, b2, rfl, rfl⟩ | ⟨b1, b2, rfl, j, hj, rfl⟩ | ⟨b1, b2, rfl, rfl⟩ <;> first | (exact absurd b1 a1) | (exact absurd a1 b1) | (exact absurd b2 a2) | (exact absurd a2 b2) | (cases b2) | skip
      · exact ⟨rfl, rfl, hw⟩
      · exact ⟨rfl, rfl, by simp; omega⟩
      · have : v = 0 := by
          have h : G_reclaim_Fifo_1 n w (i : Int) = some (v : Int) := hv
          unfold G_reclaim_Fifo_1 at h
          have := Option.some.inj h; omega
        subst this
        exact ⟨rfl, by simp, by simp; omega⟩)
    n 0 0 [] [] (by omega) (by omega) ⟨rfl, by simp; omega⟩
  refine ⟨m, ?_, ?_⟩
  · unfold G_reclaim_faults
    have h1 : G_reclaim_faults_L2 n room (fun (y0 : List Int) (y1 : Int) => G_reclaim_Fifo_1 n y0 y1) l n 0 0 [] = some (.x0 m) := h1
    rw [h1]; rfl
  · unfold G_ringref2_RefList
    have h2 : G_ringref2_RefList_L3 n room false l n 0 0 [] = some (.x0 m) := h2
    rw [h2]; rfl
/-- what holds of both at the longest unused: the same pages, the second in order of use -/
def LI (room : Int) (l : List Int) (i : Nat) (w w' : List Int) : Prop := w.Nodup ∧ w.Perm w' ∧ (w.length : Int) ≤ room ∧ w'.Pairwise (fun p q => ahd q ((l.take i).reverse) < ahd p ((l.take i).reverse))
theorem ahd_succ {l : List Int} {i : Nat} {y p : Int} (hy : l[i]? = some y) (hp : p ≠ y) : ahd p ((l.take (i + 1)).reverse) = ahd p ((l.take i).reverse) + 1 := by
  rw [List.take_add_one, hy]; simp [ahd, Ne.symm hp]
theorem ahd_zero {l : List Int} {i : Nat} {y : Int} (hy : l[i]? = some y) : ahd y ((l.take (i + 1)).reverse) = 0 := by
  rw [List.take_add_one, hy]; simp [ahd]
theorem pair_next {l w : List Int} {i : Nat} {y : Int} (hy : l[i]? = some y) (hn : y ∉ w) (h : w.Pairwise (fun p q => ahd q ((l.take i).reverse) < ahd p ((l.take i).reverse))) :
    (w ++ [y]).Pairwise (fun p q => ahd q ((l.take (i + 1)).reverse) < ahd p ((l.take (i + 1)).reverse)) := by
  rw [List.pairwise_append]
  refine ⟨?_, List.pairwise_singleton _ _, fun a ha b hb => ?_⟩
  · refine List.Pairwise.imp_of_mem (fun {a b} ha hb hab => ?_) h
    have h1 : a ≠ y := fun e => hn (by rw [← e]; exact ha)
    have h2 : b ≠ y := fun e => hn (by rw [← e]; exact hb)
    rw [ahd_succ hy h1, ahd_succ hy h2]; omega
  · rw [List.mem_singleton] at hb
    subst hb
    have h1 : a ≠ b := fun e => hn (by rw [← e]; exact ha)
    rw [ahd_succ hy h1, ahd_zero hy]; omega
theorem lru_eq (n : Nat) (room : Int) (l : List Int) (hr : 1 ≤ room) (hr8 : room ≤ 8) (hl : l.length ≤ 60) (hn : 1001 ≤ n) :
    ∃ m, G_reclaim_faults n l room (fun (y0 : List Int) (y1 : Int) => G_reclaim_Lru_1 n y0 y1 l) = some m ∧ G_ringref2_RefList n l room true = some m := by
  obtain ⟨m, h1, h2⟩ := both n room (fun (y0 : List Int) (y1 : Int) => G_reclaim_Lru_1 n y0 y1 l) true l hr hr8 hl hn (LI room l)
    (fun i w w' h => ⟨h.2.2.1, by rw [← h.2.1.length_eq]; exact h.2.2.1⟩)
    (fun i w w' hi h h3 => by
      have := h.2.2.1
      obtain ⟨v, h2, p, h3, _⟩ := lru_who n l w i hl (by omega) hn (by omega) hi
      exact ⟨v, h2, by rw [List.getElem?_eq_some_iff] at h3; exact h3.1⟩)
    (fun i w w' y c wa wb ca cb hy h h1 h2 => by
      obtain ⟨hnd, hpm, hwl, hps⟩ := h
      have hi : i < l.length := by rw [List.getElem?_eq_some_iff] at hy; exact hy.1
      have hle := hpm.length_eq
      have hnd' := hpm.nodup_iff.1 hnd
      rcases h1 with ⟨a1, rfl, rfl⟩ | ⟨a1, a2, rfl, rfl⟩ | ⟨a1, a2, rfl, v, hv, hvl, rfl⟩ <;> rcases h2 with ⟨b1, b2, rfl, rfl⟩ | ⟨b1, b2, rfl, rfl⟩ | ⟨b1, b2, rfl, j, hj, rfl⟩ | ⟨b1, b2, rfl, rfl⟩ <;> first | (exact absurd (hpm.mem_iff.1 a1) b1) | (exact absurd (hpm.mem_iff.2 b1) a1) | (exact absurd (by omega) a2) | (exact absurd (by omega) b2) | (cases b2; done) | skip
      · -- there
        have hpe := eraseIdx_eq hnd' hj
        have hny : y ∉ w'.take j ++ w'.drop (j + 1) := fun e => not_mem_erase hnd' (hpe.mem_iff.1 e)
        have hp2 : w'.Perm (w'.take j ++ w'.drop (j + 1) ++ [y]) := (List.perm_cons_erase b1).trans ((hpe.symm.cons _).trans (List.perm_append_comm (l₁ := [y])))
        refine ⟨rfl, hnd, hpm.trans hp2, hwl, pair_next hy hny (hps.sublist ?_)⟩
        have e : w' = w'.take j ++ y :: w'.drop (j + 1) := by rw [← drop_cons hj, List.take_append_drop]
        conv => rhs; rw [e]
        exact List.Sublist.append_left (List.sublist_cons_self _ _) _
      · -- room
        refine ⟨rfl, ?_, hpm.append_right _, by simp; omega, pair_next hy b1 hps⟩
        exact (List.perm_append_comm (l₁ := w) (l₂ := [y])).nodup_iff.2 (List.nodup_cons.2 ⟨a1, hnd⟩)
      · -- the oldest goes
        obtain ⟨v', hv', p, hp, hmax, _⟩ := lru_who n l w i hl (by omega) hn (by omega) hi
        have hvv : v' = v := by
          have h : G_reclaim_Lru_1 n w (i : Int) l = some (v : Int) := hv
          rw [hv'] at h; have := Option.some.inj h; omega
        subst hvv
        have hpe := eraseIdx_eq hnd hp
        have hpw : p ∈ w := List.mem_of_getElem? hp
        cases w' with
        | nil => rw [List.length_nil] at hle; omega
        | cons q s =>
          have hqp : q = p := by
            rcases List.mem_cons.1 (hpm.mem_iff.1 hpw) with e | e
            · exact e.symm
            · have h1 := (List.pairwise_cons.1 hps).1 p e
              obtain ⟨jq, hjq⟩ := List.getElem?_of_mem (hpm.mem_iff.2 (List.mem_cons_self (a := q) (l := s)))
              have h2 := hmax jq q hjq
              have h2 : ahd q ((l.take i).reverse) ≤ ahd p ((l.take i).reverse) := h2
              omega
          subst hqp
          have hs : (w.take v' ++ w.drop (v' + 1)).Perm s := hpe.trans (List.Perm.cons_inv ((List.perm_cons_erase hpw).symm.trans hpm))
          have hpp : (w.take v' ++ w.drop (v' + 1) ++ [y]).Perm (y :: w.erase q) := List.perm_append_comm.trans (hpe.cons _)
          have hnd2 : (w.take v' ++ w.drop (v' + 1) ++ [y]).Nodup := hpp.nodup_iff.2 (List.nodup_cons.2 ⟨fun e => a1 (List.mem_of_mem_erase e), hnd.erase q⟩)
          refine ⟨rfl, hnd2, hs.append_right _, by rw [hpp.length_eq, List.length_cons, List.length_erase_of_mem hpw]; omega, ?_⟩
          exact pair_next hy (fun e => b1 (List.mem_cons_of_mem _ e)) (List.pairwise_cons.1 hps).2)
    n 0 0 [] [] (by omega) (by omega) ⟨List.nodup_nil, List.Perm.refl _, by simp; omega, List.Pairwise.nil⟩
  refine ⟨m, ?_, ?_⟩
  · unfold G_reclaim_faults
    have h1 : G_reclaim_faults_L2 n room (fun (y0 : List Int) (y1 : Int) => G_reclaim_Lru_1 n y0 y1 l) l n 0 0 [] = some (.x0 m) := h1
    rw [h1]; rfl
  · unfold G_ringref2_RefList
    have h2 : G_ringref2_RefList_L3 n room true l n 0 0 [] = some (.x0 m) := h2
    rw [h2]; rfl
end Go.Proofs.Ytnmpnljjaoddhaa.reclaim
