/- The plain law of TwinTells, fifth part: what is given back. -/
import Derived.Test.YtpeakaeblibfmaaLTw4
namespace Go.Proofs.Ytpeakaeblibfmaa.twinTells
open Go.RowKit help pv
set_option linter.all false

def dis (x r : R) : Prop := x.fAt + pw x.fOrder ≤ r.fAt ∨ r.fAt + pw r.fOrder ≤ x.fAt
def bd (o : Int) (r : R) (x : R) : Bool := decide (bud o x r)
theorem minI_comm (a b : Int) : minI a b = minI b a := by
  unfold minI
  split <;> split <;> omega
theorem giveC3 {n : Nat} {t : S_twin_Twin} {b : Bool} {i : Int} {y r : R} {w l : List R} (h0 : 0 ≤ t.fOrder) (h6 : t.fOrder ≤ 6) (hn : 7 < n) (hr : VR t.fOrder r) (hy : VR t.fOrder y) :
    G_ringref2_TwinGive_C3 n b i y r w t l = some (.x0 (bd t.fOrder r y) l) := by
  unfold G_ringref2_TwinGive_C3 bd
  obtain ⟨r0, r1, r2, r3, r4⟩ := hr
  obtain ⟨y0, y1, y2, y3, y4⟩ := hy
  have p0 := pw_pos r.fOrder
  have p1 := pw_pos y.fOrder
  have p2 := pw6 h6
  have p3 := pw_le r1
  by_cases c : y.fOrder = r.fOrder
  · rw [if_pos c, power r0 (by omega) hn, Option.bind_some, wi64 (by omega) (by omega), wi64 (by omega) (by omega), roomIs h0 h6 hn]
    by_cases d : y.fAt = r.fAt + pw r.fOrder
    · rw [if_pos d, Option.bind_some]
      simp [bud, c, d]
    · rw [if_neg d, Option.bind_some]
      rw [c] at y3 
      rw [wi64 (x := y.fAt + pw r.fOrder) (by omega) (by omega)]
      by_cases e : r.fAt = y.fAt + pw r.fOrder
      · rw [if_pos e, Option.bind_some]
        congr 2
        rw [decide_eq_decide]
        unfold bud
        exact ⟨fun h => ⟨c, .inr e, h⟩, fun h => h.2.2⟩
      · rw [if_neg e]
        simp [bud, d, e]
  · rw [if_neg c]
    simp [bud, c]
theorem giveL4_none {n : Nat} {t : S_twin_Twin} {r : R} {l : List R} (h0 : 0 ≤ t.fOrder) (h6 : t.fOrder ≤ 6) (hn : 7 < n) (hr : VR t.fOrder r) (hv : ∀ x ∈ l, VR t.fOrder x) (hl : l.length ≤ 64) (hp : ∀ x ∈ l, bd t.fOrder r x = false) : ∀ (k i : Nat), l.length - i < k → i ≤ l.length →
    G_ringref2_TwinGive_L4 n l t r k false (i : Int) l = some (.x1 false l)
  | 0, i, h, _ => by omega
  | k + 1, i, h, hi => by
    rw [G_ringref2_TwinGive_L4]
    by_cases hlt : (i : Int) < (l.length : Int)
    · obtain ⟨x, hx⟩ := get_lt hlt
      rw [if_pos hlt, if_pos (by omega), Int.toNat_natCast, hx, Option.bind_some, giveC3 h0 h6 hn hr (hv x (List.mem_of_getElem? hx)), Option.bind_some, hp x (List.mem_of_getElem? hx)]
      simp only [Bool.false_eq_true, if_false]
      rw [wi_succ (by omega)]
      exact giveL4_none h0 h6 hn hr hv hl hp k (i + 1) (by omega) (by omega)
    · rw [if_neg hlt]
theorem giveL4_some {n : Nat} {t : S_twin_Twin} {r : R} {l : List R} {j : Nat} {y : R} (h0 : 0 ≤ t.fOrder) (h6 : t.fOrder ≤ 6) (hn : 7 < n) (hr : VR t.fOrder r) (hv : ∀ x ∈ l, VR t.fOrder x) (hl : l.length ≤ 64) (hj : l[j]? = some y) (hy : bd t.fOrder r y = true) (hp : ∀ (i : Nat) (x : R), i < j → l[i]? = some x → bd t.fOrder r x = false) : ∀ (k i : Nat), j - i < k → i ≤ j →
    G_ringref2_TwinGive_L4 n l t r k false (i : Int) l = some (.x0 true ⟨minI y.fAt r.fAt, r.fOrder + 1⟩ (l.take j ++ l.drop (j + 1)))
  | 0, i, h, _ => by omega
  | k + 1, i, h, hi => by
    have hjl := (List.getElem?_eq_some_iff.1 hj).1
    rw [G_ringref2_TwinGive_L4, if_pos (by omega), if_pos (by omega), Int.toNat_natCast]
    by_cases e : i = j
    · subst e
      rw [hj, Option.bind_some, giveC3 h0 h6 hn hr (hv y (List.mem_of_getElem? hj)), Option.bind_some, hy]
      simp only [if_true]
      have s1 : sub l 0 (i : Int) = some (l.take i) := by unfold sub; rw [if_pos (by omega)]; simp
      have s2 : sub l ((i + 1 : Nat) : Int) (l.length : Int) = some (l.drop (i + 1)) := by unfold sub; rw [if_pos (by omega)]; simp
      have o1 := hr.1
      have o2 := hr.2.1
      rw [s1, Option.bind_some, app_le (m := 10000) (by simp; omega) (by omega) (by omega), Option.bind_some, wi_succ (by omega), s2, Option.bind_some, app_le (m := 10000) (by simp; omega) (by omega) (by omega), Option.bind_some, wi64 (by omega) (by omega)]
      rfl
    · obtain ⟨x, hx⟩ := get_lt (l := l) (i := i) (by omega)
      rw [hx, Option.bind_some, giveC3 h0 h6 hn hr (hv x (List.mem_of_getElem? hx)), Option.bind_some, hp i x (by omega) hx]
      simp only [Bool.false_eq_true, if_false]
      rw [wi_succ (by omega)]
      exact giveL4_some h0 h6 hn hr hv hl hj hy hp k (i + 1) (by omega) (by omega)
structure St (o : Int) (r : R) (l : List R) : Prop where
  v : V o l
  q : VR o r
  d : ∀ x ∈ l, dis x r
theorem cut_sub {α : Type} (l : List α) (j : Nat) : List.Sublist (l.take j ++ l.drop (j + 1)) l := by
  have h : List.Sublist (l.take j ++ l.drop (j + 1)) (l.take j ++ l.drop j) := by
    apply List.Sublist.append (List.Sublist.refl _)
    rw [← List.drop_drop]
    exact List.drop_sublist _ _
  rwa [List.take_append_drop] at h
theorem St.step {o : Int} {r y : R} {l : List R} {j : Nat} (h : St o r l) (hj : l[j]? = some y) (hy : bd o r y = true) : St o ⟨minI y.fAt r.fAt, r.fOrder + 1⟩ (l.take j ++ l.drop (j + 1)) := by
  have hs := cut_sub l j
  simp only [bd, decide_eq_true_eq] at hy
  obtain ⟨b1, b2, b3⟩ := hy
  refine ⟨⟨fun x hx => h.v.1 x (hs.subset hx), h.v.2.sublist hs⟩, b3, ?_⟩
  intro x hx
  have hxl := hs.subset hx
  have hd := h.d x hxl
  have hxy : dis x y := by
    have e : l = l.take j ++ y :: l.drop (j + 1) := by rw [← drop_cons hj, List.take_append_drop]
    have hp := h.v.2
    rw [e, List.pairwise_append] at hp
    obtain ⟨_, hp2, hp3⟩ := hp
    rcases List.mem_append.1 hx with hx | hx
    · exact .inl (hp3 x hx y (List.mem_cons_self ..))
    · exact .inr ((List.pairwise_cons.1 hp2).1 x hx)
  have e1 : pw (r.fOrder + 1) = 2 * pw r.fOrder := pw_succ h.q.1
  have p0 := pw_pos r.fOrder
  have p1 := pw_pos x.fOrder
  unfold dis at *
  simp only
  rw [e1]
  rw [b1] at hxy
  unfold minI
  split <;> omega
theorem giveBoth {n : Nat} {t : S_twin_Twin} (h0 : 0 ≤ t.fOrder) (h6 : t.fOrder ≤ 6) (hn : 300 < n) : ∀ (m k k2 : Nat) (r : R) (l : List R), l.length ≤ m → m ≤ 64 → m < k → m + 1 < k2 → St t.fOrder r l →
    ∃ r' l', G_twin_Give_L1 n t k r l = some (.x0 r' l') ∧ G_ringref2_TwinGive_L5 n t k2 true r l = some (.x0 r' l') ∧ St t.fOrder r' l'
  | m, 0, k2, r, l, _, _, h, _, _ => by omega
  | m, k + 1, 0, r, l, _, _, _, h, _ => by omega
  | m, k + 1, k2 + 1, r, l, hm, h64, hk, hk2, hs => by
    have hl : l.length ≤ 64 := by omega
    rw [G_twin_Give_L1, G_ringref2_TwinGive_L5, if_pos rfl]
    have hend : (∀ x ∈ l, bd t.fOrder r x = false) → (G_ringref2_TwinGive_L4 n l t r n false 0 l).bind (fun v_o1749 => match v_o1749 with
        | .x0 v_z1750 v_z1751 v_z1752 => G_ringref2_TwinGive_L5 n t k2 v_z1750 v_z1751 v_z1752
        | .x1 v_z1753 v_z1754 => G_ringref2_TwinGive_L5 n t k2 v_z1753 r v_z1754) = some (.x0 r l) := by
      intro hp
      have h := giveL4_none (n := n) h0 h6 (by omega) hs.q hs.v.1 hl hp n 0 (by omega) (by omega)
      have h : G_ringref2_TwinGive_L4 n l t r n false 0 l = _ := h
      rw [h, Option.bind_some]
      obtain ⟨q, rfl⟩ : ∃ q, k2 = q + 1 := ⟨k2 - 1, by omega⟩
      simp only [G_ringref2_TwinGive_L5, Bool.false_eq_true, if_false]
    by_cases c : r.fOrder < t.fOrder
    · rw [if_pos c, G_slices_IndexFunc_twin_Room_twin_Room_sp (bd t.fOrder r) ?_ (by omega) (by omega), Option.bind_some]
      · rcases findI_cases (bd t.fOrder r) l with ⟨e1, e2⟩ | ⟨j, y, e1, e2, e3, e4⟩
        · rw [e1, if_pos (by decide)]
          exact ⟨r, l, rfl, hend e2, hs⟩
        · have hjl := (List.getElem?_eq_some_iff.1 e2).1
          have hst := hs.step e2 e3
          have h := giveL4_some (n := n) h0 h6 (by omega) hs.q hs.v.1 hl e2 e3 e4 n 0 (by omega) (by omega)
          have h : G_ringref2_TwinGive_L4 n l t r n false 0 l = _ := h
          have o1 := hs.q.1
          rw [e1, if_neg (by omega), if_pos (by omega), Int.toNat_natCast, e2, Option.bind_some, wi_succ (by omega), G_slices_Delete_twin_Room_twin_Room_h_sp (by omega) (by omega), Option.bind_some, h, Option.bind_some, wi64 (by omega) (by omega), minI_comm r.fAt y.fAt]
          have hcl : (l.take j ++ l.drop (j + 1)).length ≤ m - 1 := by simp; omega
          exact giveBoth h0 h6 hn (m - 1) k k2 _ _ hcl (by omega) (by omega) (by omega) hst
      · intro y hy
        unfold G_twin_Give_1
        rw [buddies h6 (hs.v.1 y hy) hs.q]; rfl
    · rw [if_neg c]
      refine ⟨r, l, rfl, hend ?_, hs⟩
      intro x hx
      simp only [bd, decide_eq_false_iff_not]
      intro hb
      have := hb.2.2.2.1
      simp only at this
      omega
theorem giveL2 {n : Nat} {t : S_twin_Twin} {r : R} {l : List R} (hl : l.length ≤ 64) : ∀ (k i : Nat), l.length - i < k → i ≤ l.length → (∀ x ∈ l.take i, x.fAt < r.fAt) →
    ∃ j : Nat, G_twin_Give_L2 n t r k (i : Int) l = some (.x0 (j : Int) l) ∧ j ≤ l.length ∧ (∀ x ∈ l.take j, x.fAt < r.fAt) ∧ ∀ x, l[j]? = some x → r.fAt ≤ x.fAt
  | 0, i, h, _, _ => by omega
  | k + 1, i, h, hi, hp => by
    rw [G_twin_Give_L2]
    by_cases hlt : (i : Int) < (l.length : Int)
    · obtain ⟨x, hx⟩ := get_lt hlt
      rw [if_pos hlt, if_pos (by omega), Int.toNat_natCast, hx, Option.bind_some]
      by_cases c : x.fAt < r.fAt
      · rw [if_pos c, wi_succ (by omega)]
        refine giveL2 hl k (i + 1) (by omega) (by omega) ?_
        intro y hy
        rw [List.take_add_one, hx] at hy
        simp only [Option.toList_some, List.mem_append, List.mem_singleton] at hy
        rcases hy with hy | rfl
        · exact hp y hy
        · exact c
      · rw [if_neg c]
        refine ⟨i, rfl, by omega, hp, ?_⟩
        intro y hy
        rw [hx] at hy
        cases hy
        omega
    · rw [if_neg hlt]
      refine ⟨i, rfl, by omega, hp, ?_⟩
      intro y hy
      have := (List.getElem?_eq_some_iff.1 hy).1
      omega
/-- those of a place -/
def pick (a : Int) (l : List R) : List R := l.filter (fun x => decide (x.fAt = a))
def coll (l : List R) : Nat → Int → List R
  | 0, _ => []
  | m + 1, a => pick a l ++ coll l m (a + 1)
theorem pick_none {a : Int} {l : List R} (h : ∀ x ∈ l, x.fAt ≠ a) : pick a l = [] := by
  unfold pick
  rw [List.filter_eq_nil_iff]
  intro x hx
  simpa using h x hx
theorem coll_cons {x : R} {l : List R} : ∀ (m : Nat) (a : Int), x.fAt < a → coll (x :: l) m a = coll l m a
  | 0, a, _ => rfl
  | m + 1, a, h => by
    rw [coll, coll, coll_cons m (a + 1) (by omega)]
    congr 1
    unfold pick
    rw [List.filter_cons, if_neg (by simp; omega)]
theorem coll_nil : ∀ (m : Nat) (a : Int), coll [] m a = []
  | 0, _ => rfl
  | m + 1, a => by rw [coll, coll_nil]; rfl
theorem coll_all {o : Int} (h6 : o ≤ 6) : ∀ (m : Nat) (a : Int) (l : List R), V o l → (∀ x ∈ l, a ≤ x.fAt) → a + m = 64 → coll l m a = l
  | 0, a, l, hv, ha, hm => by
    cases l with
    | nil => rfl
    | cons x l =>
      have := ha x (List.mem_cons_self ..)
      have := (hv.1 x (List.mem_cons_self ..)).2.2.2.1
      have := pw_pos x.fOrder
      have := pw6 h6
      omega
  | m + 1, a, [], hv, ha, hm => coll_nil _ _
  | m + 1, a, x :: l, hv, ha, hm => by
    have hx := ha x (List.mem_cons_self ..)
    obtain ⟨h1, h2⟩ := V_tail hv
    have p0 := pw_pos x.fOrder
    rw [coll]
    by_cases c : x.fAt = a
    · have e : pick a (x :: l) = [x] := by
        have : pick a l = [] := pick_none (fun y hy => by have := h2 y hy; omega)
        unfold pick at this ⊢
        rw [List.filter_cons, if_pos (by simp [c]), this]
      rw [e, coll_cons m (a + 1) (by omega), coll_all h6 m (a + 1) l h1 (fun y hy => by have := h2 y hy; omega) (by omega)]
      rfl
    · have hall : ∀ y ∈ x :: l, a + 1 ≤ y.fAt := by
        intro y hy
        rcases List.mem_cons.1 hy with rfl | hy
        · omega
        · have := h2 y hy; omega
      rw [pick_none (fun y hy => by have := hall y hy; omega), coll_all h6 m (a + 1) (x :: l) hv hall (by omega)]
      rfl
theorem coll_congr {l l' : List R} (h : ∀ a, pick a l = pick a l') : ∀ (m : Nat) (a : Int), coll l m a = coll l' m a
  | 0, _ => rfl
  | m + 1, a => by rw [coll, coll, h, coll_congr h m (a + 1)]
theorem pick_len (a : Int) (l : List R) : (pick a l).length ≤ l.length := List.length_filter_le _ _
theorem giveL6 {n : Nat} {a : Int} {t : S_twin_Twin} {r : R} {l w : List R} (hl : l.length ≤ 65) : ∀ (k i : Nat) (u : List R), l.length - i < k → i ≤ l.length → u.length + (pick a (l.drop i)).length ≤ 5000 →
    G_ringref2_TwinGive_L6 n a l r t k (i : Int) w u l = some (.x0 w (u ++ pick a (l.drop i)))
  | 0, i, u, h, _, _ => by omega
  | k + 1, i, u, h, hi, hu => by
    rw [G_ringref2_TwinGive_L6]
    by_cases hlt : (i : Int) < (l.length : Int)
    · obtain ⟨x, hx⟩ := get_lt hlt
      rw [drop_cons hx] at hu ⊢
      rw [if_pos hlt, if_pos (by omega), Int.toNat_natCast, hx, Option.bind_some, wi_succ (by omega)]
      unfold pick at hu ⊢
      rw [List.filter_cons] at hu ⊢
      by_cases c : x.fAt = a
      · rw [if_pos (by simp [c]), List.length_cons] at hu
        rw [if_pos c, if_pos (by simp [c]), app_le (m := 10000) (by simp; omega) (by omega) (by omega), Option.bind_some, giveL6 hl k (i + 1) _ (by omega) (by omega) (by simp only [List.length_append, List.length_cons, List.length_nil]; unfold pick; omega)]
        simp [pick]
      · rw [if_neg (by simp [c])] at hu
        rw [if_neg c, if_neg (by simp [c]), giveL6 hl k (i + 1) _ (by omega) (by omega) (by unfold pick; omega)]
        rfl
    · rw [if_neg hlt, drop_end hlt]; simp [pick]
theorem giveL7 {n : Nat} {t : S_twin_Twin} {r : R} {l : List R} (hn : 100 < n) (hl : l.length ≤ 64) : ∀ (k i : Nat) (u : List R), 64 - i < k → i ≤ 64 → u.length ≤ 65 * i →
    G_ringref2_TwinGive_L7 n r t k (i : Int) l u = some (.x0 (u ++ coll (r :: l) (64 - i) (i : Int)))
  | 0, i, u, h, _, _ => by omega
  | k + 1, i, u, h, hi, hu => by
    rw [G_ringref2_TwinGive_L7]
    by_cases hlt : (i : Int) < 64
    · have hpl := pick_len (i : Int) (r :: l)
      simp only [List.length_cons] at hpl
      rw [if_pos hlt, app_le (m := 10000) (by simp; omega) (by omega) (by omega), Option.bind_some]
      have h := giveL6 (n := n) (a := (i : Int)) (t := t) (r := r) (l := [r] ++ l) (w := l) (by simp; omega) n 0 u (by simp; omega) (by omega) (by simp only [List.drop_zero, List.cons_append, List.nil_append]; omega)
      have h : G_ringref2_TwinGive_L6 n (i : Int) ([r] ++ l) r t n 0 l u ([r] ++ l) = _ := h
      rw [h, Option.bind_some]
      simp only [List.drop_zero, List.cons_append, List.nil_append]
      rw [wi_succ (by omega), giveL7 hn hl k (i + 1) _ (by omega) (by omega) (by simp only [List.length_append]; omega)]
      rw [show 64 - i = (64 - (i + 1)) + 1 by omega, coll, List.append_assoc, show ((i + 1 : Nat) : Int) = (i : Int) + 1 by omega]
    · rw [if_neg hlt, show 64 - i = 0 by omega]; simp [coll]
theorem give_bad {n : Nat} {t : S_twin_Twin} {a o : Int} (hl : t.fFree.length < 4611686018427387903) (hn : t.fFree.length < n) (hb : bad t ≠ 0) : G_twin_Give n t a o = some (none', bad t) := by
  unfold G_twin_Give
  rw [check hl hn, Option.bind_some, if_neg hb]; rfl
theorem give_not {n : Nat} {t : S_twin_Twin} {a o : Int} (hn : 300 < n) (hb : bad t = 0) (h0 : 0 ≤ t.fOrder) (h6 : t.fOrder ≤ 6) (hv : V t.fOrder t.fFree) (ha : apt t.fOrder t.fFree ⟨a, o⟩ = false) : G_twin_Give n t a o = some (none', 1) := by
  have hl := V_len h6 hv
  unfold G_twin_Give
  rw [check (by omega) (by omega), Option.bind_some, if_pos hb, apart h0 h6 (by omega) (by omega) hv.1, Option.bind_some, ha, if_neg (by decide)]; rfl
theorem give_in {n : Nat} {t : S_twin_Twin} {a o : Int} (hn : 300 < n) (hb : bad t = 0) (h0 : 0 ≤ t.fOrder) (h6 : t.fOrder ≤ 6) (hv : V t.fOrder t.fFree) (ha : apt t.fOrder t.fFree ⟨a, o⟩ = true) :
    ∃ l, l.length ≤ 10000 ∧ G_twin_Give n t a o = some (⟨t.fOrder, l⟩, 0) ∧ G_ringref2_TwinGive n t ⟨a, o⟩ = some ⟨t.fOrder, l⟩ := by
  have hl := V_len h6 hv
  have hst : St t.fOrder ⟨a, o⟩ t.fFree := by
    simp only [apt, Bool.and_eq_true, decide_eq_true_eq, Bool.not_eq_true', List.any_eq_false] at ha
    refine ⟨hv, ha.1, fun x hx => ?_⟩
    have := ha.2 x hx
    simp only [meets, Bool.and_eq_true, decide_eq_true_eq] at this
    unfold dis
    simp only
    omega
  obtain ⟨r, l, e1, e2, e3⟩ := giveBoth (n := n) h0 h6 hn 64 n n ⟨a, o⟩ t.fFree hl (by omega) (by omega) (by omega) hst
  have hll := V_len h6 e3.v
  obtain ⟨j, f1, f2, f3, f4⟩ := giveL2 (n := n) (t := t) (r := r) (l := l) hll n 0 (by omega) (by omega) (by simp)
  have f1 : G_twin_Give_L2 n t r n 0 l = _ := f1
  have hS : V t.fOrder (l.take j ++ r :: l.drop j) := by
    have hp := e3.v.2
    have e : l = l.take j ++ l.drop j := by rw [List.take_append_drop]
    rw [e, List.pairwise_append] at hp
    obtain ⟨hp1, hp2, hp3⟩ := hp
    have pr := pw_pos r.fOrder
    have hA : ∀ x ∈ l.take j, before x r := by
      intro x hx
      have := f3 x hx
      have px := pw_pos x.fOrder
      rcases e3.d x (List.mem_of_mem_take hx) with h | h
      · exact h
      · omega
    have hge : ∀ x ∈ l.drop j, r.fAt ≤ x.fAt := by
      intro x hx
      by_cases hj : j < l.length
      · have hg := List.getElem?_eq_getElem hj
        have h4 := f4 _ hg
        rw [drop_cons hg] at hx hp2
        rcases List.mem_cons.1 hx with rfl | hx
        · exact h4
        · have := (List.pairwise_cons.1 hp2).1 x hx
          unfold before at this
          have := pw_pos (l[j]).fOrder
          omega
      · rw [List.drop_of_length_le (by omega)] at hx; cases hx
    have hB : ∀ x ∈ l.drop j, before r x := by
      intro x hx
      have := hge x hx
      have px := pw_pos x.fOrder
      rcases e3.d x (List.mem_of_mem_drop hx) with h | h
      · omega
      · exact h
    refine ⟨?_, ?_⟩
    · intro x hx
      rcases List.mem_append.1 hx with hx | hx
      · exact e3.v.1 x (List.mem_of_mem_take hx)
      · rcases List.mem_cons.1 hx with rfl | hx
        · exact e3.q
        · exact e3.v.1 x (List.mem_of_mem_drop hx)
    · rw [List.pairwise_append]
      refine ⟨hp1, .cons hB hp2, ?_⟩
      intro x hx y hy
      rcases List.mem_cons.1 hy with rfl | hy
      · exact hA x hx
      · exact hp3 x hx y hy
  refine ⟨l.take j ++ [r] ++ l.drop j, by simp; omega, ?_, ?_⟩
  · unfold G_twin_Give
    rw [check (by omega) (by omega), Option.bind_some, if_pos hb, apart h0 h6 (by omega) (by omega) hv.1, Option.bind_some, ha, if_pos rfl]
    unfold G_slices_Clone_twin_Room_twin_Room G_slices_Insert_twin_Room_twin_Room_h
    rw [app_le (m := 10000) (by simp; omega) (by omega) (by omega), Option.bind_some, List.nil_append, e1, Option.bind_some]
    simp only []
    rw [f1, Option.bind_some]
    simp only []
    unfold insI
    rw [if_pos (by simp; omega), Option.bind_some]
    simp
  · unfold G_ringref2_TwinGive
    rw [app_le (m := 10000) (by simp; omega) (by omega) (by omega), Option.bind_some, List.nil_append, e2, Option.bind_some]
    simp only []
    have h7 := giveL7 (n := n) (t := t) (r := r) (l := l) (by omega) hll n 0 [] (by omega) (by omega) (by simp)
    have h7 : G_ringref2_TwinGive_L7 n r t n 0 l [] = _ := h7
    rw [h7, Option.bind_some]
    simp only [List.nil_append]
    have hpick : ∀ a, pick a (r :: l) = pick a (l.take j ++ r :: l.drop j) := by
      intro a
      have e : pick a l = pick a (l.take j) ++ pick a (l.drop j) := by
        unfold pick; rw [← List.filter_append, List.take_append_drop]
      unfold pick at e ⊢
      rw [List.filter_append, List.filter_cons, List.filter_cons, e]
      by_cases c : r.fAt = a
      · rw [if_pos (by simp [c]), if_pos (by simp [c])]
        have : pick a (l.take j) = [] := pick_none (fun x hx => by have := f3 x hx; omega)
        unfold pick at this
        rw [this]; rfl
      · rw [if_neg (by simp [c]), if_neg (by simp [c])]
    rw [coll_congr hpick]
    have := coll_all h6 64 0 _ hS (fun x hx => (hS.1 x hx).2.2.1) (by omega)
    have this : coll (l.take j ++ r :: l.drop j) (64 - 0) ((0 : Nat) : Int) = _ := this
    rw [this]
    simp
end Go.Proofs.Ytpeakaeblibfmaa.twinTells
