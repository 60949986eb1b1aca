/- The plain law of ReclaimTells: clocks. -/
import Derived.Test.YtnmpnljjaoddhaaSpRt
import Derived.Test.YtnmpnljjaoddhaaMath
namespace Go.Proofs.Ytnmpnljjaoddhaa.reclaimT
open Go.RowKit help rep pv
set_option linter.all false

def pid (id : Int) : S_reclaim_Item → Bool := fun y => y.fId == id
theorem itemat_l (n : Nat) (c : S_reclaim_Clock) (id : Int) (hl : c.fItems.length ≤ 10000) : ∀ (k i : Nat), c.fItems.length - i < k → i ≤ c.fItems.length → G_ringref2_ItemAt_L1 n id c k (i : Int) = some (match (c.fItems.drop i).findIdx? (pid id) with | some j => .x0 ((i + j : Nat) : Int) | none => .x1)
  | 0, i, h, _ => by omega
  | k + 1, i, h, hi => by
    rw [G_ringref2_ItemAt_L1]
    by_cases hlt : (i : Int) < (c.fItems.length : Int)
    · obtain ⟨e, he⟩ := get_lt hlt
      rw [if_pos hlt, getI_nat, he, Option.bind_some, drop_cons he, List.findIdx?_cons]
      by_cases h1 : e.fId = id
      · have h2 : pid id e = true := by simpa [pid] using h1
        rw [if_pos h1, if_pos h2]; rfl
      · have h2 : ¬ pid id e = true := by simpa [pid] using h1
        rw [if_neg h1, if_neg h2, wi_succ (by omega), itemat_l n c id hl k (i + 1) (by omega) (by omega)]
        cases (c.fItems.drop (i + 1)).findIdx? (pid id) with
        | none => rfl
        | some j => simp; omega
    · rw [if_neg hlt, drop_end hlt]; rfl
theorem itemat (n : Nat) (c : S_reclaim_Clock) (id : Int) (hl : c.fItems.length ≤ 10000) (hn : 10001 ≤ n) : G_ringref2_ItemAt n c id = some (findI (pid id) c.fItems) := by
  unfold G_ringref2_ItemAt findI
  have h := itemat_l n c id hl n 0 (by omega) (by omega)
  rw [List.drop_zero] at h
  have h : G_ringref2_ItemAt_L1 n id c n 0 = _ := h
  rw [h, Option.bind_some]
  cases c.fItems.findIdx? (pid id) with
  | none => rfl
  | some j => simp
theorem find_any (n : Nat) (l : List S_reclaim_Item) (id : Int) (hl : l.length ≤ 10000) (hn : 10001 ≤ n) : G_reclaim_find n l id = some (findI (pid id) l) := by
  unfold G_reclaim_find
  rw [G_slices_IndexFunc_reclaim_Item_reclaim_Item_sp (f := fun y0 => G_reclaim_find_1 n y0 id) (pid id) (fun y _ => rfl) (by omega) (by omega)]; rfl
/-- it is the first of its kind -/
theorem first_iff {p : S_reclaim_Item → Bool} {l : List S_reclaim_Item} {i : Nat} {x : S_reclaim_Item} (hx : l[i]? = some x) (hp : p x = true) : findI p l = (i : Int) ↔ findI p (l.take i) < 0 := by
  rw [findI_lt]
  have hil : i < l.length := (List.getElem?_eq_some_iff.1 hx).1
  rcases findI_cases p l with ⟨h1, h2⟩ | ⟨j, y, h1, h2, h3, h4⟩
  · exact absurd (h2 x (List.mem_of_getElem? hx)) (by rw [hp]; decide)
  · rw [h1]
    constructor
    · intro e
      have : j = i := by omega
      subst this
      intro z hz
      obtain ⟨q, hq⟩ := List.getElem?_of_mem hz
      have hql : q < j := by have := (List.getElem?_eq_some_iff.1 hq).1; simp at this; omega
      rw [List.getElem?_take_of_lt hql] at hq
      exact h4 q z hql hq
    · intro h
      rcases Nat.lt_trichotomy i j with h' | h' | h'
      · rw [h4 i x h' hx] at hp; cases hp
      · omega
      · have : y ∈ l.take i := List.mem_of_getElem? (i := j) (by rw [List.getElem?_take_of_lt h']; exact h2)
        rw [h y this] at h3; cases h3
def ids (l : List S_reclaim_Item) : List Int := l.map (·.fId)
theorem l2 (n : Nat) (c : S_reclaim_Clock) (hl : c.fItems.length ≤ 64) (hn : 10001 ≤ n) : ∀ (k i : Nat), c.fItems.length - i < k → i ≤ c.fItems.length → (ids (c.fItems.take i)).Nodup →
    ∃ b : Bool, G_reclaim_Check_L2 n c k (i : Int) = some (if b = true then .x1 else .x0 5) ∧ G_ringref2_Clocks_L2 n c k (i : Int) = some (if b = true then .x1 else .x0 5) ∧ (b = true → (ids c.fItems).Nodup)
  | 0, i, h, _, _ => by omega
  | k + 1, i, h, hi, hd => by
    rw [G_reclaim_Check_L2, G_ringref2_Clocks_L2]
    by_cases hlt : (i : Int) < (c.fItems.length : Int)
    · obtain ⟨x, hx⟩ := get_lt hlt
      have hs : sub c.fItems 0 (i : Int) = some (c.fItems.take i) := by
        unfold sub; rw [if_pos ⟨by omega, by omega, by omega⟩]; simp
      have hf := first_iff (p := pid x.fId) hx (by simp [pid])
      rw [if_pos hlt, if_pos hlt, getI_nat, hx, Option.bind_some, Option.bind_some, hs, Option.bind_some, find_any n _ _ (by simp; omega) hn, Option.bind_some, itemat n c _ (by omega) hn, Option.bind_some]
      by_cases h1 : findI (pid x.fId) (c.fItems.take i) < 0
      · rw [if_neg (by omega), if_pos (hf.2 h1), wi_succ (by omega)]
        refine l2 n c hl hn k (i + 1) (by omega) (by omega) ?_
        rw [List.take_add_one, hx]
        unfold ids at hd ⊢
        rw [List.map_append, List.nodup_append]
        refine ⟨hd, by simp, fun a ha b hb => ?_⟩
        simp at hb
        subst hb
        intro e
        subst e
        rw [List.mem_map] at ha
        obtain ⟨z, hz, e⟩ := ha
        have := (findI_lt.1 h1) z hz
        simp [pid, e] at this
      · rw [if_pos (by omega), if_neg (fun e => h1 (hf.1 e))]
        exact ⟨false, by simp, by simp, fun h => by cases h⟩
    · rw [if_neg hlt, if_neg hlt]
      exact ⟨true, by simp, by simp, fun _ => by rw [List.take_of_length_le (by omega)] at hd; exact hd⟩
theorem check_any (n : Nat) (c : S_reclaim_Clock) (hn : 10001 ≤ n) : ∃ r, G_reclaim_Check n c = some r ∧ G_ringref2_Clocks n c = some r ∧ (r = 0 → c.fItems.length ≤ 64 ∧ 0 ≤ c.fHand ∧ (c.fHand = 0 ∨ c.fHand < c.fItems.length) ∧ (ids c.fItems).Nodup) := by
  unfold G_reclaim_Check G_ringref2_Clocks
  by_cases h1 : (c.fItems.length : Int) > 64
  · exact ⟨2, by rw [if_pos h1], by rw [if_pos h1], fun h => by omega⟩
  rw [if_neg h1, if_neg h1]
  have hw : wi .i64 ((c.fItems.length : Int) - 1) = (c.fItems.length : Int) - 1 := wi64 (by omega) (by omega)
  have hC : ∃ b : Bool, G_reclaim_Check_C1 n c = some (.x0 b) ∧ G_ringref2_Clocks_C1 n c = some (.x0 b) ∧ (b = false → 0 ≤ c.fHand ∧ (c.fHand = 0 ∨ c.fHand < c.fItems.length)) := by
    unfold G_reclaim_Check_C1 G_ringref2_Clocks_C1
    by_cases h2 : c.fHand < 0
    · exact ⟨true, by rw [if_pos h2], by rw [if_pos h2], fun h => by cases h⟩
    rw [if_neg h2, if_neg h2, hw]
    by_cases h3 : c.fHand = 0
    · refine ⟨false, ?_, by rw [if_pos h3], fun _ => ⟨by omega, .inl h3⟩⟩
      rw [decide_eq_false (by unfold maxI; split <;> omega)]
    rw [if_neg h3]
    by_cases h4 : c.fHand ≥ (c.fItems.length : Int)
    · refine ⟨true, ?_, by rw [decide_eq_true h4], fun h => by cases h⟩
      rw [decide_eq_true (by unfold maxI; split <;> omega)]
    · refine ⟨false, ?_, by rw [decide_eq_false h4], fun _ => ⟨by omega, .inr (by omega)⟩⟩
      rw [decide_eq_false (by unfold maxI; split <;> omega)]
  obtain ⟨b, b1, b2, b3⟩ := hC
  rw [b1, b2, Option.bind_some, Option.bind_some]
  cases b with
  | true => exact ⟨1, by simp, by simp, fun h => by omega⟩
  | false =>
    obtain ⟨d, d1, d2, d3⟩ := l2 n c (by omega) hn n 0 (by omega) (by omega) (by simp [ids])
    have d1 : G_reclaim_Check_L2 n c n 0 = _ := d1
    have d2 : G_ringref2_Clocks_L2 n c n 0 = _ := d2
    simp only [Bool.false_eq_true, if_false]
    rw [d1, d2, Option.bind_some, Option.bind_some]
    obtain ⟨b4, b5⟩ := b3 rfl
    cases d with
    | true => exact ⟨0, rfl, rfl, fun _ => ⟨by omega, b4, b5, d3 rfl⟩⟩
    | false => exact ⟨5, rfl, rfl, fun h => by omega⟩
theorem eqI_refl (x : S_reclaim_Item) : eqRes .neq (eqS_reclaim_Item x x) = false := by
  have : eqS_reclaim_Item x x = true := by unfold eqS_reclaim_Item; simp
  rw [this]; rfl
theorem same_l (n : Nat) (c : S_reclaim_Clock) (hl : c.fItems.length ≤ 1000) : ∀ (k i : Nat), c.fItems.length - i < k → i ≤ c.fItems.length → G_ringref2_ClockSame_L2 n c c k (i : Int) = some .x1
  | 0, i, h, _ => by omega
  | k + 1, i, h, hi => by
    rw [G_ringref2_ClockSame_L2]
    by_cases hlt : (i : Int) < (c.fItems.length : Int)
    · obtain ⟨e, he⟩ := get_lt hlt
      rw [if_pos hlt, getI_nat, he, Option.bind_some, Option.bind_some, eqI_refl, if_neg (by decide), wi_succ (by omega)]
      exact same_l n c hl k (i + 1) (by omega) (by omega)
    · rw [if_neg hlt]
theorem same_any (n : Nat) (c : S_reclaim_Clock) (hl : c.fItems.length ≤ 1000) (hn : 10001 ≤ n) : G_ringref2_ClockSame n c c = some true := by
  unfold G_ringref2_ClockSame G_ringref2_ClockSame_C1
  have h : G_ringref2_ClockSame_L2 n c c n 0 = _ := same_l n c hl n 0 (by omega) (by omega)
  rw [if_pos rfl, Option.bind_some]
  simp only [bne_self_eq_false, Bool.false_eq_true, if_false]
  rw [h]; rfl
/-- the place of one among others -/
theorem uniq_find : ∀ {l : List S_reclaim_Item} {j : Nat} {x : S_reclaim_Item}, (ids l).Nodup → l[j]? = some x → findI (pid x.fId) l = (j : Int) := by
  intro l j x hd hx
  have hp : pid x.fId x = true := by simp [pid]
  rw [first_iff hx hp, findI_lt]
  intro z hz
  have hjl : j < l.length := (List.getElem?_eq_some_iff.1 hx).1
  have e : l = l.take j ++ x :: l.drop (j + 1) := by rw [← drop_cons hx, List.take_append_drop]
  unfold ids at hd
  rw [e, List.map_append, List.nodup_append] at hd
  have := hd.2.2 z.fId (List.mem_map_of_mem hz) x.fId (by simp)
  simpa [pid] using this
end Go.Proofs.Ytnmpnljjaoddhaa.reclaimT
