/- The plain law of ReclaimTells: the law. -/
import Derived.Test.YtnmpnljjaoddhaaLRt3
namespace Go.Proofs.Ytnmpnljjaoddhaa.reclaimT
open Go.RowKit help rep pv
set_option linter.all false
local notation "N0" => S_reclaim_Clock.mk ([] : List S_reclaim_Item) 0

theorem l7 (n : Nat) (d : S_reclaim_Clock × Int × Int × Int) (c : S_reclaim_Clock) (hl : c.fItems.length ≤ 1000) : ∀ (k i : Nat) (b : Bool), c.fItems.length - i < k → i ≤ c.fItems.length →
    G_ringlaw2_ReclaimTells_L7 n d c k b (i : Int) = some (.x0 (b || (c.fItems.drop i).any (fun y => !y.fPinned)))
  | 0, i, b, h, _ => by omega
  | k + 1, i, b, h, hi => by
    rw [G_ringlaw2_ReclaimTells_L7]
    by_cases hlt : (i : Int) < (c.fItems.length : Int)
    · obtain ⟨e, he⟩ := get_lt hlt
      rw [if_pos hlt, getI_nat, he, Option.bind_some, drop_cons he, List.any_cons, wi_succ (by omega)]
      cases b with
      | true => rw [if_pos rfl, l7 n d c hl k (i + 1) true (by omega) (by omega)]; simp
      | false => rw [if_neg (by decide), l7 n d c hl k (i + 1) (!e.fPinned) (by omega) (by omega)]; simp
    · rw [if_neg hlt, drop_end hlt]; simp
theorem clone_any (n : Nat) (l : List S_reclaim_Item) (hl : l.length ≤ 1000) : G_slices_Clone_reclaim_Item_reclaim_Item n l = some l := by
  unfold G_slices_Clone_reclaim_Item_reclaim_Item
  exact app_some (by simp; omega) (by omega)
theorem sub_at {l : List S_reclaim_Item} {h : Nat} (hh : h ≤ l.length) : sub l (h : Int) (l.length : Int) = some (l.drop h) ∧ sub l 0 (h : Int) = some (l.take h) := by
  unfold sub
  rw [if_pos ⟨by omega, by omega, by omega⟩, if_pos ⟨by omega, by omega, by omega⟩]
  simp
theorem law (n : Nat) (hn : 10001 ≤ n) (hn2 : n ≤ 100000) (c : S_reclaim_Clock) (x : S_reclaim_Item) : G_ringlaw2_ReclaimTells n c x = some true := by
  obtain ⟨r, c1, c2, c3⟩ := check_any n c hn
  have hs0 : G_ringref2_ClockSame n N0 N0 = some true := same_any n N0 (by simp) hn
  unfold G_ringlaw2_ReclaimTells
  by_cases h0 : r = 0
  · subst h0
    obtain ⟨hl, hh0, hh1, hd⟩ := c3 rfl
    obtain ⟨items, hand⟩ := c
    simp only at hl hh0 hh1 hd
    obtain ⟨h, rfl⟩ := Int.eq_ofNat_of_zero_le hh0
    have hhl : h ≤ items.length := by omega
    obtain ⟨sd, st⟩ := sub_at hhl
    have hfind := find_any n items x.fId (by omega) hn
    have hat := itemat n ⟨items, (h : Int)⟩ x.fId (show items.length ≤ 10000 by omega) hn
    simp only at hat
    have hclone := clone_any n items (by omega)
    -- who goes
    have hnext : ∃ d, G_reclaim_Next n ⟨items, (h : Int)⟩ = some d ∧ ((items.any (fun y => !y.fPinned) = false ∧ d = (N0, 0, 0, 6)) ∨ (items.any (fun y => !y.fPinned) = true ∧ ∃ id cnt hd out, out.length ≤ 64 ∧ d = (⟨out, hd⟩, id, cnt, 0) ∧ G_ringref2_ClockNext n ⟨items, (h : Int)⟩ = some (⟨out, hd⟩, id, cnt))) := by
      unfold G_reclaim_Next
      have hc : G_slices_ContainsFunc_reclaim_Item_reclaim_Item n items (fun y0 => G_reclaim_Next_1 n y0) = some (items.any (fun y => !y.fPinned)) := G_slices_ContainsFunc_reclaim_Item_reclaim_Item_sp (f := fun y0 => G_reclaim_Next_1 n y0) (fun y => !y.fPinned) (fun y _ => rfl) (by omega) (by omega)
      simp only [c1, Option.bind_some, if_true, hc]
      cases ha : items.any (fun y => !y.fPinned) with
      | false => exact ⟨_, by rw [if_neg (by decide)], .inl ⟨rfl, rfl⟩⟩
      | true =>
        obtain ⟨y, hy, hyp⟩ := List.any_eq_true.1 ha
        have hpos : 0 < items.length := List.length_pos_of_mem hy
        have hhlt : h < items.length := by omega
        have hst : stops n (items.drop h ++ items.take h) := by
          have := stops1 (items.drop h ++ items.take h) [] n (by simp; omega) (by simp) ⟨y, by
            rw [List.append_nil, List.mem_append]
            rw [← List.take_append_drop h items, List.mem_append] at hy
            exact hy.symm, by simpa using hyp⟩
          simpa using this
        obtain ⟨id, cnt, hd', out, o1, o2, o3⟩ := next_loop n ⟨items, (h : Int)⟩ hn hl n h 1 items hhlt hl (by omega) rfl hd hst
        have o2 : G_reclaim_Next_L2 n n (h : Int) 1 items = _ := o2
        refine ⟨(⟨out, hd'⟩, id, cnt, 0), by rw [if_pos rfl, hclone, Option.bind_some, o2, Option.bind_some], .inr ⟨rfl, id, cnt, hd', out, o1, rfl, ?_⟩⟩
        unfold G_ringref2_ClockNext
        have a1 : app 16 ([] : List S_reclaim_Item) (items.drop h) = some (items.drop h) := app_some (by simp; omega) (by omega)
        have a2 : app 16 (items.drop h) (items.take h) = some (items.drop h ++ items.take h) := app_some (by simp; omega) (by omega)
        simp only [sd, st, Option.bind_some, a1, a2]
        rcases o3 with o3 | ⟨o3, o4⟩
        · have o3 : G_ringref2_ClockNext_L3 n ⟨items, (h : Int)⟩ n 1 (items.drop h ++ items.take h) = _ := o3
          rw [o3, Option.bind_some]
        · have o3 : G_ringref2_ClockNext_L3 n ⟨items, (h : Int)⟩ n 1 (items.drop h ++ items.take h) = _ := o3
          rw [o3, Option.bind_some, o4]
    obtain ⟨d, d1, d2⟩ := hnext
    have h7 := l7 n d ⟨items, (h : Int)⟩ (show items.length ≤ 1000 by omega) n 0 false (show items.length - 0 < n by omega) (Nat.zero_le _)
    simp only [List.drop_zero, Bool.false_or] at h7
    have h7 : G_ringlaw2_ReclaimTells_L7 n d ⟨items, (h : Int)⟩ n false 0 = _ := h7
    -- put, mark
    have hpm : ∃ a b, G_reclaim_Put n ⟨items, (h : Int)⟩ x.fId = some a ∧ G_reclaim_Mark n ⟨items, (h : Int)⟩ x = some b ∧ G_ringlaw2_ReclaimTells_C6 n a b d (findI (pid x.fId) items) ⟨items, (h : Int)⟩ x = some .x1 := by
      unfold G_reclaim_Put G_reclaim_Mark G_ringlaw2_ReclaimTells_C6
      simp only [c1, Option.bind_some, if_true, hfind, hclone]
      rcases findI_cases (pid x.fId) items with ⟨f1, _⟩ | ⟨j, y, f1, f2, f3, _⟩
      · -- not there
        have q1 : ¬ ((-1 : Int) ≥ 0) := by omega
        have q2 : (-1 : Int) < 0 := by omega
        simp only [f1, if_neg q1, if_pos q2]
        by_cases h64 : (items.length : Int) = 64
        · simp only [if_pos h64]
          refine ⟨_, _, rfl, rfl, ?_⟩
          unfold G_ringlaw2_ReclaimTells_C3
          simp only [hs0, Option.bind_some, if_true, bne_self_eq_false, Bool.false_eq_true, if_false]
        · simp only [if_neg h64]
          have hins : G_slices_Insert_reclaim_Item_reclaim_Item_h n items (h : Int) [S_reclaim_Item.mk x.fId true false] = some (items.take h ++ [S_reclaim_Item.mk x.fId true false] ++ items.drop h) := by
            unfold G_slices_Insert_reclaim_Item_reclaim_Item_h insI
            rw [if_pos ⟨by omega, by omega, by simp; omega, by simp; omega⟩, Int.toNat_natCast]
          have hil : (items.take h ++ [S_reclaim_Item.mk x.fId true false] ++ items.drop h).length = items.length + 1 := by simp; omega
          have hne : (((items.take h ++ [S_reclaim_Item.mk x.fId true false] ++ items.drop h).length : Nat) : Int) ≠ 0 := by rw [hil]; omega
          have hrem : remI (wi .i64 ((h : Int) + 1)) (((items.take h ++ [S_reclaim_Item.mk x.fId true false] ++ items.drop h).length : Nat) : Int) = if (items.length : Int) = 0 then 0 else (h : Int) + 1 := by
            rw [hil, wi_succ (by omega), rem_nn (by omega)]
            split
            · have e1 : h = 0 := by omega
              have e2 : items.length = 0 := by omega
              rw [e1, e2]; rfl
            · rw [Int.emod_eq_of_lt (by omega) (by omega)]; omega
          have a1 : app 16 ([] : List S_reclaim_Item) (items.take h) = some (items.take h) := app_some (by simp; omega) (by omega)
          have a2 : app 16 (items.take h) [S_reclaim_Item.mk x.fId true false] = some (items.take h ++ [S_reclaim_Item.mk x.fId true false]) := app_some (by simp; omega) (by omega)
          have a3 : app 16 (items.take h ++ [S_reclaim_Item.mk x.fId true false]) (items.drop h) = some (items.take h ++ [S_reclaim_Item.mk x.fId true false] ++ items.drop h) := app_some (by simp; omega) (by omega)
          rw [hins, Option.bind_some, if_pos hne, hrem]
          refine ⟨_, _, rfl, rfl, ?_⟩
          rw [st, Option.bind_some, a1, Option.bind_some, a2, Option.bind_some, sd, Option.bind_some, a3, Option.bind_some]
          have hsame := fun hd => same_any n ⟨items.take h ++ [S_reclaim_Item.mk x.fId true false] ++ items.drop h, hd⟩ (show (items.take h ++ [S_reclaim_Item.mk x.fId true false] ++ items.drop h).length ≤ 1000 by omega) hn
          by_cases he : (items.length : Int) = 0
          · rw [if_pos he, if_pos he]
            unfold G_ringlaw2_ReclaimTells_C4
            simp only [hs0, hsame, Option.bind_some, if_true, bne_self_eq_false, Bool.false_eq_true, if_false]
          · rw [if_neg he, if_neg he]
            unfold G_ringlaw2_ReclaimTells_C5
            have hw : wi .i64 ((h : Int) + 1) = (h : Int) + 1 := wi64 (by omega) (by omega)
            simp only [hw, hs0, hsame, Option.bind_some, if_true, bne_self_eq_false, Bool.false_eq_true, if_false]
      · -- there
        have hjl : j < items.length := (List.getElem?_eq_some_iff.1 f2).1
        have hb : 0 ≤ (j : Int) ∧ ((j : Int)).toNat < items.length := by rw [Int.toNat_natCast]; omega
        have q1 : (j : Int) ≥ 0 := by omega
        have q2 : ¬ ((j : Int) < 0) := by omega
        simp only [f1, if_pos q1, if_neg q2, if_pos hb]
        simp only [Int.toNat_natCast, f2, Option.bind_some]
        refine ⟨_, _, rfl, rfl, ?_⟩
        have hsame := same_any n ⟨items.set j x, (h : Int)⟩ (show (items.set j x).length ≤ 1000 by simp; omega) hn
        unfold G_ringlaw2_ReclaimTells_C2
        simp only [Int.toNat_natCast, hs0, hsame, Option.bind_some, if_true, bne_self_eq_false, Bool.false_eq_true, if_false]
    obtain ⟨a, b, p1, p2, p3⟩ := hpm
    simp only [p1, p2, d1, c1, c2, Option.bind_some, if_true, hat, p3, h7]
    rcases d2 with ⟨e1, e2⟩ | ⟨e1, id, cnt, hd', out, o1, e2, e3⟩
    · subst e2
      rw [e1]
      unfold G_ringlaw2_ReclaimTells_C8
      simp only [Bool.false_eq_true, if_false, hs0, Option.bind_some, if_true, beq_self_eq_true]
    · subst e2
      rw [e1]
      unfold G_ringlaw2_ReclaimTells_C9
      have hsame := same_any n ⟨out, hd'⟩ (show out.length ≤ 1000 by omega) hn
      simp only [if_true, e3, Option.bind_some, hsame, beq_self_eq_true]
  · unfold G_reclaim_Put G_reclaim_Mark G_reclaim_Next G_ringlaw2_ReclaimTells_C1
    simp only [c1, c2, Option.bind_some, if_neg h0, if_true, hs0, beq_self_eq_true]
end Go.Proofs.Ytnmpnljjaoddhaa.reclaimT
