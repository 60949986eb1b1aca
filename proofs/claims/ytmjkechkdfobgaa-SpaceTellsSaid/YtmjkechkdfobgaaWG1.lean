/- SpaceTells: the pages of a memory: how many are in frames, the oldest one. -/
import Derived.Test.YtmjkechkdfobgaaW
import Derived.Test.YtmjkechkdfobgaaWLL
namespace Go.Proofs.Ytmjkechkdfobgaa.pv
set_option linter.all false
open Go.RowKit
namespace sp
abbrev Pg := S_space_page
abbrev St := Int × Int × Int × Unit × Unit × Unit
/-- is a page in a frame? -/
def hr (pg : List Pg) (p : Nat) : Bool := match pg[p]? with
  | some y => y.2.2.1
  | none => false
def hereC (pg : List Pg) (L : List Nat) : Nat := L.countP (hr pg)
variable {P : Program} (hP : P = Try.prog)
include hP
omit hP in
theorem row_get {L : List Nat} {t : Nat} (h : t < L.length) : lget (L.map some) t = some (some L[t]) := by
  unfold lget; rw [List.getElem?_map, List.getElem?_eq_getElem h]; rfl
theorem here_loop (N d : Nat) (st : St) (smap : List (Int × Option Nat)) (pg : List Pg) (L : List Nat) (hL : ∀ p ∈ L, p < pg.length) (hl : L.length ≤ 1000) : ∀ (k t n : Nat), t ≤ L.length → L.length - t < k → n ≤ 2000 - L.length + t →
    Gm_here_L3 P N d k (n : Int) (L.length : Int) (t : Int) st (L.map some) smap pg = some (((n + (L.drop t).countP (hr pg) : Nat) : Int), ())
  | 0, t, n, _, h, _ => by omega
  | k + 1, t, n, ht, h, hn => by
    rw [Gm_here_L3_eq hP]
    by_cases h1 : t < L.length
    · have hm : L[t] < pg.length := hL _ (List.getElem_mem _)
      have e1 : hr pg L[t] = (pg[L[t]]).2.2.1 := by unfold hr; rw [List.getElem?_eq_getElem hm]
      rw [dT (by omega), cond_true, inb_true (by omega) (by simpa using h1), cond_true, Int.toNat_natCast, row_get h1, Option.bind_some, Option.bind_some, lget_lt hm, Option.bind_some, List.drop_eq_getElem_cons h1, List.countP_cons, e1]
      cases hb : (pg[L[t]]).2.2.1 with
      | true =>
        rw [cond_true, wi_nat (i := n) (by omega), wi_nat (i := t) (by omega), here_loop N d st smap pg L hL hl k (t + 1) (n + 1) (by omega) (by omega) (by omega)]
        simp only [if_true]
        rw [show n + 1 + (L.drop (t + 1)).countP (hr pg) = n + ((L.drop (t + 1)).countP (hr pg) + 1) by omega]
      | false =>
        rw [cond_false, wi_nat (i := t) (by omega), here_loop N d st smap pg L hL hl k (t + 1) n (by omega) (by omega) (by omega)]
        simp
    · rw [dF (by omega), cond_false, List.drop_of_length_le (by omega)]
      simp
theorem here_eq {N d : Nat} (hN : 1001 ≤ N) (st : St) (smap : List (Int × Option Nat)) (pg : List Pg) (L : List Nat) (hL : ∀ p ∈ L, p < pg.length) (hl : L.length ≤ 1000) :
    Gm_here P N (d + 1) st (L.map some) smap pg = some ((hereC pg L : Int), ()) := by
  rw [Gm_here_eq hP, List.length_map]
  have := here_loop hP N d st smap pg L hL hl N 0 0 (by omega) (by omega) (by omega)
  simpa [hereC] using this
omit hP in
theorem hereC_le (pg : List Pg) (L : List Nat) : hereC pg L ≤ L.length := List.countP_le_length ..
theorem free_eq {N d : Nat} (hN : 1001 ≤ N) (st : St) (smap : List (Int × Option Nat)) (pg : List Pg) (L : List Nat) (hL : ∀ p ∈ L, p < pg.length) (hl : L.length ≤ 1000) (h1 : 0 ≤ st.1 ∧ st.1 ≤ 1000) (h2 : 0 ≤ st.2.1 ∧ st.2.1 ≤ 1000) :
    Gm_Free P N (d + 2) st (L.map some) smap pg = some ((st.1 - hereC pg L, st.2.1 - ((L.length : Int) - hereC pg L), ()), ()) := by
  have h3 := hereC_le pg L
  rw [Gm_Free_eq hP, here_eq hP hN st smap pg L hL hl, Option.bind_some, List.length_map]
  simp only
  rw [wi64 (by omega) (by omega), wi64 (x := (L.length : Int) - hereC pg L) (by omega) (by omega), wi64 (by omega) (by omega)]
/-- the oldest page in a frame -/
theorem old_loop (N d : Nat) (st : St) (smap : List (Int × Option Nat)) (pg : List Pg) (L : List Nat) (hL : ∀ p ∈ L, p < pg.length) (hl : L.length ≤ 1000) : ∀ (k t : Nat) (b : Option Nat), t ≤ L.length → L.length - t < k →
    (∀ p, b = some p → p ∈ L ∧ hr pg p = true) → (b = none → ∀ p ∈ L.take t, hr pg p = false) →
    ∃ b', Gm_oldest_L3 P N d k b (L.length : Int) (t : Int) st (L.map some) smap pg = some (b', ()) ∧ (∀ p, b' = some p → p ∈ L ∧ hr pg p = true) ∧ (b' = none → ∀ p ∈ L, hr pg p = false)
  | 0, t, b, _, h, _, _ => by omega
  | k + 1, t, b, ht, h, hb, hb0 => by
    rw [Gm_oldest_L3_eq hP]
    by_cases h1 : t < L.length
    · have hm : L[t] < pg.length := hL _ (List.getElem_mem _)
      have e1 : hr pg L[t] = (pg[L[t]]).2.2.1 := by unfold hr; rw [List.getElem?_eq_getElem hm]
      rw [dT (by omega), cond_true, inb_true (by omega) (by simpa using h1), cond_true, Int.toNat_natCast, row_get h1, Option.bind_some, Option.bind_some, lget_lt hm, Option.bind_some, wi_nat (by omega)]
      have hself : ∀ p, some L[t] = some p → p ∈ L ∧ hr pg p = true → p ∈ L ∧ hr pg p = true := fun _ _ h => h
      have htk : L.take (t + 1) = L.take t ++ [L[t]] := by rw [List.take_succ_eq_append_getElem h1]
      cases hv : (pg[L[t]]).2.2.1 with
      | false =>
        rw [cond_false, Option.bind_some, cond_false]
        refine old_loop N d st smap pg L hL hl k (t + 1) b (by omega) (by omega) hb fun e p hp => ?_
        rw [htk] at hp
        rcases List.mem_append.1 hp with hp | hp
        · exact hb0 e p hp
        · rw [List.mem_singleton.1 hp, e1, hv]
      | true =>
        rw [cond_true]
        have hnew : ∀ p, some L[t] = some p → p ∈ L ∧ hr pg p = true := by
          intro p e; cases e; exact ⟨List.getElem_mem _, by rw [e1, hv]⟩
        cases b with
        | none =>
          rw [show ((none : Option Nat) == none) = true from rfl, cond_true, Option.bind_some, cond_true]
          exact old_loop N d st smap pg L hL hl k (t + 1) _ (by omega) (by omega) hnew fun e => nomatch e
        | some q =>
          have hq := hL q (hb q rfl).1
          rw [show ((some q : Option Nat) == none) = false from rfl, cond_false, Option.bind_some, lget_lt hm, Option.bind_some, Option.bind_some, lget_lt hq, Option.bind_some, Option.bind_some]
          cases decide ((pg[L[t]]).2.2.2.1 < (pg[q]).2.2.2.1) with
          | true => rw [cond_true]; exact old_loop N d st smap pg L hL hl k (t + 1) _ (by omega) (by omega) hnew fun e => nomatch e
          | false => rw [cond_false]; exact old_loop N d st smap pg L hL hl k (t + 1) _ (by omega) (by omega) hb fun e => nomatch e
    · rw [dF (by omega), cond_false]
      refine ⟨b, rfl, hb, fun e p hp => hb0 e p ?_⟩
      rw [List.take_of_length_le (by omega)]; exact hp
theorem old_eq {N d : Nat} (hN : 1001 ≤ N) (st : St) (smap : List (Int × Option Nat)) (pg : List Pg) (L : List Nat) (hL : ∀ p ∈ L, p < pg.length) (hl : L.length ≤ 1000) (h0 : 0 < hereC pg L) :
    ∃ p, Gm_oldest P N (d + 1) st (L.map some) smap pg = some (some p, ()) ∧ p ∈ L ∧ hr pg p = true := by
  rw [Gm_oldest_eq hP, List.length_map]
  obtain ⟨b, e, h1, h2⟩ := old_loop hP N d st smap pg L hL hl N 0 none (by omega) (by omega) (fun _ e => nomatch e) (fun _ p hp => nomatch hp)
  cases b with
  | none =>
    have := h2 rfl
    unfold hereC at h0
    rw [List.countP_pos_iff] at h0
    obtain ⟨p, hp, hh⟩ := h0
    rw [this p hp] at hh; cases hh
  | some p => exact ⟨p, e, h1 p rfl⟩
end sp
end Go.Proofs.Ytmjkechkdfobgaa.pv
namespace Go.Proofs.Ytmjkechkdfobgaa.pv
set_option linter.all false
open Go.RowKit
namespace sp
/-- what a page holds, and how many name it -/
def usr (pg : List Pg) (p : Nat) : Int := match pg[p]? with
  | some y => y.2.1
  | none => 0
def dat (pg : List Pg) (p : Nat) : Ar 16 Int := match pg[p]? with
  | some y => y.1
  | none => nA 16 0
theorem get_lset {α : Type} (l : List α) (i j : Nat) (v : α) : (lset l i v)[j]? = if i = j ∧ i < l.length then some v else l[j]? := lget_lset l i j v
theorem hr_lset (pg : List Pg) (i j : Nat) (y : Pg) : hr (lset pg i y) j = if i = j ∧ i < pg.length then y.2.2.1 else hr pg j := by
  unfold hr; rw [get_lset]; by_cases h : i = j ∧ i < pg.length
  · simp only [if_pos h]
  · simp only [if_neg h]
theorem usr_lset (pg : List Pg) (i j : Nat) (y : Pg) : usr (lset pg i y) j = if i = j ∧ i < pg.length then y.2.1 else usr pg j := by
  unfold usr; rw [get_lset]; by_cases h : i = j ∧ i < pg.length
  · simp only [if_pos h]
  · simp only [if_neg h]
theorem dat_lset (pg : List Pg) (i j : Nat) (y : Pg) : dat (lset pg i y) j = if i = j ∧ i < pg.length then y.1 else dat pg j := by
  unfold dat; rw [get_lset]; by_cases h : i = j ∧ i < pg.length
  · simp only [if_pos h]
  · simp only [if_neg h]
theorem hr_at {pg : List Pg} {i : Nat} (h : i < pg.length) : hr pg i = (pg[i]).2.2.1 := by unfold hr; rw [List.getElem?_eq_getElem h]
theorem usr_at {pg : List Pg} {i : Nat} (h : i < pg.length) : usr pg i = (pg[i]).2.1 := by unfold usr; rw [List.getElem?_eq_getElem h]
theorem dat_at {pg : List Pg} {i : Nat} (h : i < pg.length) : dat pg i = (pg[i]).1 := by unfold dat; rw [List.getElem?_eq_getElem h]
theorem cnt_same {f g : Nat → Bool} : ∀ {L : List Nat}, (∀ j ∈ L, f j = g j) → L.countP g = L.countP f
  | [], _ => rfl
  | a :: L, h => by
    rw [List.countP_cons, List.countP_cons, cnt_same fun j hj => h j (List.mem_cons_of_mem _ hj), h a (List.mem_cons_self ..)]
/-- one flag changed -/
theorem cnt_upd {f g : Nat → Bool} {i : Nat} : ∀ {L : List Nat}, L.Nodup → (∀ j ∈ L, j ≠ i → f j = g j) → i ∈ L → L.countP g + (f i).toNat = L.countP f + (g i).toNat
  | [], _, _, h => by cases h
  | a :: L, hn, h, hi => by
    have hn' := List.nodup_cons.1 hn
    rw [List.countP_cons, List.countP_cons]
    by_cases e : a = i
    · subst e
      rw [cnt_same (f := f) (g := g) fun j hj => h j (List.mem_cons_of_mem _ hj) fun e => hn'.1 (e ▸ hj)]
      cases f a <;> cases g a <;> simp <;> omega
    · have := cnt_upd hn'.2 (fun j hj => h j (List.mem_cons_of_mem _ hj)) ((List.mem_cons.1 hi).resolve_left fun e' => e e'.symm)
      rw [h a (List.mem_cons_self ..) e]
      omega
/-- pages that differ by flags and times alone -/
structure Alk (pg pg' : List Pg) : Prop where
  len : pg'.length = pg.length
  usr : ∀ j, usr pg' j = usr pg j
  dat : ∀ j, dat pg' j = dat pg j
theorem Alk.refl (pg : List Pg) : Alk pg pg := ⟨rfl, fun _ => rfl, fun _ => rfl⟩
theorem Alk.trans {a b c : List Pg} (h : Alk a b) (k : Alk b c) : Alk a c := ⟨k.len.trans h.len, fun j => (k.usr j).trans (h.usr j), fun j => (k.dat j).trans (h.dat j)⟩
theorem Alk.set {pg : List Pg} {i : Nat} (h : i < pg.length) {y : Pg} (h1 : y.1 = (pg[i]).1) (h2 : y.2.1 = (pg[i]).2.1) : Alk pg (lset pg i y) := by
  refine ⟨lset_len .., fun j => ?_, fun j => ?_⟩
  · rw [usr_lset]
    split
    · rename_i e; rw [h2, ← e.1, usr_at h]
    · rfl
  · rw [dat_lset]
    split
    · rename_i e; rw [h1, ← e.1, dat_at h]
    · rfl
variable {P : Program} (hP : P = Try.prog)
include hP
/-- a page is asked: it is in a frame then -/
theorem ask_eq {N d : Nat} (hN : 1001 ≤ N) (st : St) (smap : List (Int × Option Nat)) (pg : List Pg) (L : List Nat) (p : Nat) (hn : L.Nodup) (hL : ∀ p ∈ L, p < pg.length) (hl : L.length ≤ 1000) (hp : p ∈ L)
    (hc : 0 ≤ st.2.2.1 ∧ st.2.2.1 ≤ 1000000) (hf : 1 ≤ st.1) (hh : (hereC pg L : Int) ≤ st.1) :
    ∃ pg', Gm_ask P N (d + 2) (some p) st (L.map some) smap pg = some ((), u2 st (st.2.2.1 + 1), pg', ()) ∧ Alk pg pg' ∧ hr pg' p = true ∧ (hereC pg' L : Int) = if hr pg p then (hereC pg L : Int) else min st.1 (hereC pg L + 1) := by
  have hpl := hL p hp
  rw [Gm_ask_eq hP, Option.bind_some, lget_lt hpl, Option.bind_some, Option.bind_some, wi64 (by omega) (by omega)]
  generalize hy : u3 pg[p] (st.2.2.1 + 1) = y
  have hy1 : y.1 = (pg[p]).1 := by rw [← hy]; rfl
  have hy2 : y.2.1 = (pg[p]).2.1 := by rw [← hy]; rfl
  have hy3 : y.2.2.1 = (pg[p]).2.2.1 := by rw [← hy]; rfl
  have A1 : Alk pg (lset pg p y) := Alk.set hpl hy1 hy2
  have hr1 : ∀ j, hr (lset pg p y) j = hr pg j := fun j => by
    rw [hr_lset]
    split
    · rename_i e; rw [hy3, ← e.1, hr_at hpl]
    · rfl
  have hL1 : ∀ q ∈ L, q < (lset pg p y).length := fun q hq => by rw [A1.len]; exact hL q hq
  have hC1 : hereC (lset pg p y) L = hereC pg L := cnt_same fun j _ => (hr1 j).symm
  rw [lget_lset, if_pos ⟨rfl, hpl⟩, Option.bind_some, hy3, ← hr_at hpl]
  cases hb : hr pg p with
  | true =>
    rw [cond_true]
    exact ⟨_, rfl, A1, by rw [hr1, hb], by rw [hC1, if_pos rfl]⟩
  | false =>
    rw [cond_false, here_eq hP hN _ smap _ L hL1 hl, Option.bind_some, hC1]
    by_cases he : (hereC pg L : Int) = st.1
    · obtain ⟨q, e1, e2, e3⟩ := old_eq hP hN (d := d) (u2 st (st.2.2.1 + 1)) smap (lset pg p y) L hL1 hl (by rw [hC1]; omega)
      have hql := hL1 q e2
      have hqp : q ≠ p := fun e => by rw [hr1, e, hb] at e3; cases e3
      have hpl1 := hL1 p hp
      rw [bT he, cond_true, e1, Option.bind_some, Option.bind_some, lget_lt hql, Option.bind_some, Option.bind_some, lget_lset, if_neg (fun h => hqp h.1), lget_lt hpl1, Option.bind_some]
      have A2 : Alk (lset pg p y) (lset (lset pg p y) q (u2 (lset pg p y)[q] false)) := Alk.set hql rfl rfl
      have hpl2 : p < (lset (lset pg p y) q (u2 (lset pg p y)[q] false)).length := by rw [A2.len]; exact hpl1
      have hg2 : (lset (lset pg p y) q (u2 (lset pg p y)[q] false))[p] = (lset pg p y)[p] := by
        have := get_lset (lset pg p y) q p (u2 (lset pg p y)[q] false)
        rw [if_neg (fun h => hqp h.1), List.getElem?_eq_getElem hpl2, List.getElem?_eq_getElem hpl1] at this
        exact Option.some.inj this
      have A3 : Alk (lset (lset pg p y) q (u2 (lset pg p y)[q] false)) (lset (lset (lset pg p y) q (u2 (lset pg p y)[q] false)) p (u2 (lset pg p y)[p] true)) := Alk.set hpl2 (by rw [hg2]; rfl) (by rw [hg2]; rfl)
      refine ⟨_, rfl, A1.trans (A2.trans A3), by rw [hr_lset, if_pos ⟨rfl, hpl2⟩]; rfl, ?_⟩
      have c2 := cnt_upd (f := hr (lset pg p y)) (g := hr (lset (lset pg p y) q (u2 (lset pg p y)[q] false))) (i := q) hn (fun j _ hj => by rw [hr_lset (lset pg p y) q j, if_neg (fun h => hj h.1.symm)]) e2
      have c3 := cnt_upd (f := hr (lset (lset pg p y) q (u2 (lset pg p y)[q] false))) (g := hr (lset (lset (lset pg p y) q (u2 (lset pg p y)[q] false)) p (u2 (lset pg p y)[p] true))) (i := p) hn (fun j _ hj => by rw [hr_lset (lset (lset pg p y) q (u2 (lset pg p y)[q] false)) p j, if_neg (fun h => hj h.1.symm)]) hp
      rw [hr_lset (lset pg p y) q q, if_pos ⟨rfl, hql⟩, e3] at c2
      rw [hr_lset (lset (lset pg p y) q (u2 (lset pg p y)[q] false)) p p, if_pos ⟨rfl, hpl2⟩, hr_lset (lset pg p y) q p, if_neg (fun h => hqp h.1), hr1, hb] at c3
      simp only [u2, Bool.toNat_true, Bool.toNat_false] at c2 c3
      have c1 : L.countP (hr (lset pg p y)) = hereC pg L := hC1
      rw [if_neg (by simp)]
      unfold hereC at c1 ⊢
      simp only [u2]
      unfold hereC at he
      omega
    · have hpl1 := hL1 p hp
      rw [bF he, cond_false, Option.bind_some, lget_lt hpl1, Option.bind_some]
      have A2 : Alk (lset pg p y) (lset (lset pg p y) p (u2 (lset pg p y)[p] true)) := Alk.set hpl1 rfl rfl
      refine ⟨_, rfl, A1.trans A2, by rw [hr_lset, if_pos ⟨rfl, hpl1⟩]; rfl, ?_⟩
      have c2 := cnt_upd (f := hr (lset pg p y)) (g := hr (lset (lset pg p y) p (u2 (lset pg p y)[p] true))) (i := p) hn (fun j _ hj => by rw [hr_lset (lset pg p y) p j, if_neg (fun h => hj h.1.symm)]) hp
      rw [hr_lset (lset pg p y) p p, if_pos ⟨rfl, hpl1⟩, hr1, hb] at c2
      simp only [u2, Bool.toNat_true, Bool.toNat_false] at c2
      have c1 : L.countP (hr (lset pg p y)) = hereC pg L := hC1
      rw [if_neg (by simp)]
      unfold hereC at c1 he hh ⊢
      simp only [u2]
      omega
end sp
end Go.Proofs.Ytmjkechkdfobgaa.pv
namespace Go.Proofs.Ytmjkechkdfobgaa.pv
set_option linter.all false
open Go.RowKit
namespace sp
theorem hr_app {pg : List Pg} {y : Pg} {j : Nat} : hr (pg ++ [y]) j = if j = pg.length then y.2.2.1 else hr pg j := by
  unfold hr
  by_cases h : j = pg.length
  · subst h; simp
  · rw [if_neg h]
    by_cases h2 : j < pg.length
    · rw [List.getElem?_append_left h2]
    · rw [List.getElem?_eq_none (by simp; omega), List.getElem?_eq_none (by omega)]
theorem usr_app {pg : List Pg} {y : Pg} {j : Nat} : usr (pg ++ [y]) j = if j = pg.length then y.2.1 else usr pg j := by
  unfold usr
  by_cases h : j = pg.length
  · subst h; simp
  · rw [if_neg h]
    by_cases h2 : j < pg.length
    · rw [List.getElem?_append_left h2]
    · rw [List.getElem?_eq_none (by simp; omega), List.getElem?_eq_none (by omega)]
theorem dat_app {pg : List Pg} {y : Pg} {j : Nat} : dat (pg ++ [y]) j = if j = pg.length then y.1 else dat pg j := by
  unfold dat
  by_cases h : j = pg.length
  · subst h; simp
  · rw [if_neg h]
    by_cases h2 : j < pg.length
    · rw [List.getElem?_append_left h2]
    · rw [List.getElem?_eq_none (by simp; omega), List.getElem?_eq_none (by omega)]
variable {P : Program} (hP : P = Try.prog)
include hP
theorem add_eq {N d : Nat} (hN : 1001 ≤ N) (st : St) (smap : List (Int × Option Nat)) (pg : List Pg) (L : List Nat) (D : Ar 16 Int) (hn : L.Nodup) (hL : ∀ p ∈ L, p < pg.length) (hl : L.length ≤ 999)
    (hc : 0 ≤ st.2.2.1 ∧ st.2.2.1 ≤ 1000000) (hf : 1 ≤ st.1) (hh : (hereC pg L : Int) ≤ st.1) :
    ∃ pg', Gm_add P N (d + 3) D st (L.map some) smap pg = some (some pg.length, u2 st (st.2.2.1 + 1), pg', (L ++ [pg.length]).map some, ()) ∧ pg'.length = pg.length + 1 ∧
      (∀ j, usr pg' j = if j = pg.length then 1 else usr pg j) ∧ (∀ j, dat pg' j = if j = pg.length then D else dat pg j) ∧ hr pg' pg.length = true ∧ (hereC pg' (L ++ [pg.length]) : Int) = min st.1 (hereC pg L + 1) := by
  have hnl : pg.length ∉ L := fun h => by have := hL _ h; omega
  have hn' : (L ++ [pg.length]).Nodup := List.nodup_append.2 ⟨hn, by simp, fun a ha b hb e => by
    rw [List.mem_singleton.1 hb] at e; exact hnl (e ▸ ha)⟩
  have hL' : ∀ p ∈ L ++ [pg.length], p < (pg ++ [((D, 1, false, 0, ()) : Pg)]).length := fun p hp => by
    rw [List.length_append, List.length_singleton]
    rcases List.mem_append.1 hp with hp | hp
    · have := hL p hp; omega
    · rw [List.mem_singleton.1 hp]; omega
  have hC : hereC (pg ++ [((D, 1, false, 0, ()) : Pg)]) (L ++ [pg.length]) = hereC pg L := by
    unfold hereC
    rw [List.countP_append, cnt_same (f := hr pg) fun j hj => by rw [hr_app, if_neg (fun e : j = pg.length => hnl (e ▸ hj))]]
    simp [hr_app]
  obtain ⟨pg', e1, A, e2, e3⟩ := ask_eq hP hN (d := d) st smap (pg ++ [(D, 1, false, 0, ())]) (L ++ [pg.length]) pg.length hn' hL' (by simp; omega) (by simp) hc hf (by rw [hC]; exact hh)
  rw [Gm_add_eq hP, lenOk_true (by simp; omega) (by omega), cond_true]
  rw [show (L.map some ++ [some pg.length] : List (Option Nat)) = (L ++ [pg.length]).map some by simp]
  rw [show ((st.1, st.2.1, st.2.2.1, (), (), ()) : St) = st from rfl, e1, Option.bind_some]
  refine ⟨pg', rfl, by rw [A.len]; simp, fun j => by rw [A.usr, usr_app], fun j => by rw [A.dat, dat_app], e2, ?_⟩
  rw [e3, hr_app, if_pos rfl, hC]; simp
theorem idx_loop (N d : Nat) (e : S_space_entry) (pg : List Pg) (o : List (Option Nat)) (hl : o.length ≤ 1000) : ∀ (k t : Nat), t ≤ o.length → o.length - t < k → (∀ y ∈ o.take t, (y == e.1) = false) →
    ∃ r : Int, G_slices_IndexFunc_L2 P N (d + 1) k (o.length : Int) (t : Int) o e pg = some (r, ()) ∧ ((r = -1 ∧ ∀ y ∈ o, (y == e.1) = false) ∨ ∃ i : Nat, r = (i : Int) ∧ i < o.length ∧ (∀ y ∈ o.take i, (y == e.1) = false) ∧ o[i]? = some e.1)
  | 0, t, _, h, _ => by omega
  | k + 1, t, ht, h, hb => by
    rw [G_slices_IndexFunc_L2_eq hP]
    by_cases h1 : t < o.length
    · rw [dT (by omega), cond_true, inb_true (by omega) (by omega), cond_true, Int.toNat_natCast, lget_lt h1, Option.bind_some, Gm_let_1_eq hP, Option.bind_some]
      cases hv : (o[t] == e.1) with
      | true =>
        rw [cond_true]
        exact ⟨t, rfl, .inr ⟨t, rfl, h1, hb, by rw [List.getElem?_eq_getElem h1, eq_of_beq hv]⟩⟩
      | false =>
        rw [cond_false, wi_nat (by omega)]
        refine idx_loop N d e pg o hl k (t + 1) (by omega) (by omega) fun y hy => ?_
        rw [List.take_succ_eq_append_getElem h1] at hy
        rcases List.mem_append.1 hy with hy | hy
        · exact hb y hy
        · rw [List.mem_singleton.1 hy, hv]
    · rw [dF (by omega), cond_false]
      exact ⟨-1, rfl, .inl ⟨rfl, fun y hy => hb y (by rw [List.take_of_length_le (by omega)]; exact hy)⟩⟩
theorem del_loop (N d : Nat) (e : S_space_entry) (pg : List Pg) (o : List (Option Nat)) (hl : o.length ≤ 1000) : ∀ (k i j : Nat) (s : List (Option Nat)), j ≤ o.length → i < j → o.length - j < k → s.length = o.length → s.drop j = o.drop j → s.take i = (o.take j).filter (fun y => !(y == e.1)) →
    G_slices_DeleteFunc_L5 P N (d + 1) k (i : Int) (j : Int) e pg s = some ((), o.filter (fun y => !(y == e.1)), ())
  | 0, i, j, s, _, _, h, _, _, _ => by omega
  | k + 1, i, j, s, hj, hi, h, hs, hd, ht => by
    rw [G_slices_DeleteFunc_L5_eq hP, hs]
    by_cases h1 : j < o.length
    · have hy : s[j]'(by omega) = o[j] := by
        have : (s.drop j)[0]? = (o.drop j)[0]? := by rw [hd]
        rw [List.getElem?_drop, List.getElem?_drop, Nat.add_zero, List.getElem?_eq_getElem h1, List.getElem?_eq_getElem (by omega)] at this
        exact Option.some.inj this
      have hd1 : s.drop (j + 1) = o.drop (j + 1) := by
        have := congrArg (List.drop 1) hd
        rwa [List.drop_drop, List.drop_drop] at this
      rw [dT (by omega), cond_true, inb_true (by omega) (by omega), cond_true, Int.toNat_natCast, lget_lt (by omega), Option.bind_some, Gm_let_1_eq hP, Option.bind_some, hy]
      cases hv : (o[j] == e.1) with
      | false =>
        rw [Bool.not_false, cond_true, inb_true (by omega) (by omega), cond_true, Int.toNat_natCast, lget_lt (by omega), Option.bind_some, wi_nat (by omega), wi_nat (by omega)]
        refine del_loop N d e pg o hl k (i + 1) (j + 1) _ (by omega) (by omega) (by omega) (by rw [lset_len]; exact hs) ?_ ?_
        · rw [lset, List.drop_set_of_lt (by omega)]; exact hd1
        · rw [List.take_succ_eq_append_getElem h1, List.filter_append, ← ht, lset, List.take_succ_eq_append_getElem (by simp; omega), List.take_set_of_le (Nat.le_refl _)]
          simp [hv]
      | true =>
        rw [Bool.not_true, cond_false, wi_nat (by omega)]
        refine del_loop N d e pg o hl k i (j + 1) s (by omega) (by omega) (by omega) hs hd1 ?_
        rw [List.take_succ_eq_append_getElem h1, List.filter_append, ← ht]
        simp [hv]
    · have hc : (clrR s i ((o.length : Int)).toNat none).length = o.length := by
        unfold clrR; simp; omega
      have hj' : j = o.length := by omega
      rw [dF (by omega), cond_false, show slOk (i : Int) (o.length : Int) o.length = true by unfold slOk; simp; omega, cond_true, show (Nat.ble (i : Int).toNat ((o.length : Int).toNat) && Nat.ble ((o.length : Int).toNat) o.length) = true by simp; omega, cond_true,
        Int.toNat_natCast (n := i), hc, show slOk 0 (i : Int) o.length = true by unfold slOk; simp; omega, cond_true, show Nat.ble i o.length = true by simp; omega, cond_true]
      have : List.take i (clrR s i ((o.length : Int)).toNat none) = s.take i := by
        unfold clrR
        rw [List.append_assoc, List.take_append_of_le_length (by simp; omega), List.take_take, Nat.min_self]
      rw [this, ht, List.take_of_length_le (by omega)]
omit hP in
theorem filter_all {α : Type} {f : α → Bool} {l : List α} (h : ∀ y ∈ l, f y = true) : l.filter f = l := List.filter_eq_self.2 h
theorem delf_eq {N d : Nat} (hN : 1001 ≤ N) (e : S_space_entry) (pg : List Pg) (o : List (Option Nat)) (hl : o.length ≤ 1000) :
    G_slices_DeleteFunc P N (d + 3) o e pg = some ((), o.filter (fun y => !(y == e.1)), ()) := by
  rw [G_slices_DeleteFunc_eq hP, G_slices_IndexFunc_eq hP]
  obtain ⟨r, e1, h1 | ⟨i, h1, h2, h3, h4⟩⟩ := idx_loop hP N d e pg o hl N 0 (by omega) (by omega) (fun y hy => by simp at hy)
  · have e1 : G_slices_IndexFunc_L2 P N (d + 1) N (o.length : Int) 0 o e pg = some (r, ()) := e1
    rw [e1, Option.bind_some, bT h1.1, cond_true, filter_all fun y hy => by rw [h1.2 y hy]; rfl]
  · have e1 : G_slices_IndexFunc_L2 P N (d + 1) N (o.length : Int) 0 o e pg = some (r, ()) := e1
    rw [e1, Option.bind_some, bF (by omega), cond_false, h1, wi_nat (by omega)]
    refine del_loop hP N (d + 1) e pg o hl N i (i + 1) o (by omega) (by omega) (by omega) rfl rfl ?_
    rw [List.take_succ_eq_append_getElem h2, List.filter_append, filter_all fun y hy => by rw [h3 y hy]; rfl]
    rw [List.getElem?_eq_getElem h2] at h4
    rw [Option.some.inj h4]; simp
end sp
end Go.Proofs.Ytmjkechkdfobgaa.pv
namespace Go.Proofs.Ytmjkechkdfobgaa.pv
set_option linter.all false
open Go.RowKit
namespace sp
variable {P : Program} (hP : P = Try.prog)
include hP
theorem let_eq {N d : Nat} (hN : 1001 ≤ N) (st : St) (smap : List (Int × Option Nat)) (pg : List Pg) (L : List Nat) (p : Nat) (r : Int) (hl : L.length ≤ 1000) (hp : p < pg.length) (hu : 1 ≤ usr pg p ∧ usr pg p ≤ 2000) :
    ∃ pg', Gm_let P N (d + 4) (some p, r, ()) st (L.map some) smap pg = some ((), st, pg', (if usr pg p = 1 then L.filter (fun q => !(q == p)) else L).map some, ()) ∧ pg'.length = pg.length ∧
      (∀ j, usr pg' j = if j = p then usr pg p - 1 else usr pg j) ∧ (∀ j, dat pg' j = dat pg j) ∧ (∀ j, hr pg' j = hr pg j) := by
  have hup := usr_at hp
  rw [Gm_let_eq hP]
  simp only [Option.bind_some, lget_lt hp]
  rw [lget_lset, if_pos ⟨rfl, hp⟩, Option.bind_some, ← hup, wi64 (by omega) (by omega)]
  simp only [u1]
  have hpg : (lset pg p ((pg[p]).1, usr pg p - 1, (pg[p]).2.2)).length = pg.length ∧
      (∀ j, usr (lset pg p ((pg[p]).1, usr pg p - 1, (pg[p]).2.2)) j = if j = p then usr pg p - 1 else usr pg j) ∧ (∀ j, dat (lset pg p ((pg[p]).1, usr pg p - 1, (pg[p]).2.2)) j = dat pg j) ∧ (∀ j, hr (lset pg p ((pg[p]).1, usr pg p - 1, (pg[p]).2.2)) j = hr pg j) := by
    refine ⟨lset_len .., fun j => ?_, fun j => ?_, fun j => ?_⟩
    · rw [usr_lset]
      by_cases e : j = p
      · rw [if_pos e, if_pos ⟨e.symm, hp⟩]
      · rw [if_neg e, if_neg (fun h => e h.1.symm)]
    · rw [dat_lset]
      by_cases e : p = j
      · rw [if_pos ⟨e, hp⟩, ← e, dat_at hp]
      · rw [if_neg (fun h => e h.1)]
    · rw [hr_lset]
      by_cases e : p = j
      · rw [if_pos ⟨e, hp⟩, ← e, hr_at hp]
      · rw [if_neg (fun h => e h.1)]
  by_cases h1 : usr pg p = 1
  · rw [bT (by omega), cond_true, delf_eq hP hN _ _ _ (by simpa using hl), Option.bind_some, if_pos h1]
    refine ⟨_, ?_, hpg⟩
    have : (L.map some).filter (fun y => !(y == (some p : Option Nat))) = (L.filter (fun q => !(q == p))).map some := by
      rw [List.filter_map]; rfl
    simp only [this]
  · rw [bF (by omega), cond_false, if_neg h1]
    exact ⟨_, rfl, hpg⟩
theorem recl_loop (N d : Nat) (hN : 1001 ≤ N) (n : Int) (st : St) (smap : List (Int × Option Nat)) (L : List Nat) (hn : L.Nodup) (hl : L.length ≤ 1000) (hs : 0 ≤ st.2.1 ∧ st.2.1 ≤ 1000) : ∀ (k c : Nat) (pg : List Pg), (∀ p ∈ L, p < pg.length) → hereC pg L < k → (L.length : Int) - hereC pg L ≤ st.2.1 → c + hereC pg L ≤ 1000 →
    ∃ (pg' : List Pg) (m : Nat), Gm_Reclaim_L2 P N (d + 1) k n (c : Int) st (L.map some) smap pg = some (((c + m : Nat) : Int), pg', ()) ∧ Alk pg pg' ∧ hereC pg' L + m = hereC pg L ∧ (m : Int) = min (max (n - c) 0) (min (hereC pg L) (st.2.1 - (L.length - hereC pg L)))
  | 0, c, pg, _, h, _, _ => by omega
  | k + 1, c, pg, hL, h, hh, hc => by
    have hle := hereC_le pg L
    rw [Gm_Reclaim_L2_eq hP]
    by_cases h1 : (c : Int) < n
    · rw [dT h1, cond_true, here_eq hP hN st smap pg L hL hl, Option.bind_some]
      by_cases h2 : 0 < hereC pg L
      · rw [dT (by simp only; omega), cond_true, Option.bind_some, List.length_map, wi64 (by simp only; omega) (by simp only; omega)]
        by_cases h3 : (L.length : Int) - hereC pg L < st.2.1
        · obtain ⟨p, e1, e2, e3⟩ := old_eq hP hN (d := d) st smap pg L hL hl h2
          have hp := hL p e2
          rw [dT h3, Option.bind_some, cond_true, e1, Option.bind_some, Option.bind_some, lget_lt hp, Option.bind_some, wi_nat (by omega)]
          have A : Alk pg (lset pg p (u2 pg[p] false)) := Alk.set hp rfl rfl
          have c2 := cnt_upd (f := hr pg) (g := hr (lset pg p (u2 pg[p] false))) (i := p) hn (fun j _ hj => by rw [hr_lset, if_neg (fun h => hj h.1.symm)]) e2
          rw [hr_lset, if_pos ⟨rfl, hp⟩, e3] at c2
          simp only [u2, Bool.toNat_true, Bool.toNat_false] at c2
          have c3 : hereC (lset pg p (u2 pg[p] false)) L + 1 = hereC pg L := by unfold hereC; simp only [u2]; omega
          obtain ⟨pg', m, f1, f2, f3, f4⟩ := recl_loop N d hN n st smap L hn hl hs k (c + 1) (lset pg p (u2 pg[p] false)) (fun q hq => by rw [A.len]; exact hL q hq) (by omega) (by omega) (by omega)
          refine ⟨pg', m + 1, ?_, A.trans f2, by omega, by omega⟩
          rw [f1, show c + 1 + m = c + (m + 1) by omega]
        · rw [dF h3, Option.bind_some, cond_false]
          exact ⟨pg, 0, rfl, Alk.refl pg, rfl, by omega⟩
      · rw [dF (by simp only; omega), cond_false, Option.bind_some, cond_false]
        exact ⟨pg, 0, rfl, Alk.refl pg, rfl, by omega⟩
    · rw [dF h1, cond_false, Option.bind_some, cond_false]
      exact ⟨pg, 0, rfl, Alk.refl pg, rfl, by omega⟩
theorem recl_eq {N d : Nat} (hN : 1001 ≤ N) (n : Int) (st : St) (smap : List (Int × Option Nat)) (L : List Nat) (pg : List Pg) (hn : L.Nodup) (hL : ∀ p ∈ L, p < pg.length) (hl : L.length ≤ 900) (hs : 0 ≤ st.2.1 ∧ st.2.1 ≤ 1000) (hh : (L.length : Int) - hereC pg L ≤ st.2.1) :
    ∃ (pg' : List Pg) (m : Nat), Gm_Reclaim P N (d + 2) n st (L.map some) smap pg = some ((m : Int), pg', ()) ∧ Alk pg pg' ∧ hereC pg' L + m = hereC pg L ∧ (m : Int) = min (max n 0) (min (hereC pg L) (st.2.1 - (L.length - hereC pg L))) := by
  have hle := hereC_le pg L
  rw [Gm_Reclaim_eq hP]
  obtain ⟨pg', m, f1, f2, f3, f4⟩ := recl_loop hP N d hN n st smap L hn (by omega) hs N 0 pg hL (by omega) hh (by omega)
  refine ⟨pg', m, ?_, f2, f3, by simpa using f4⟩
  rw [Nat.zero_add] at f1
  exact f1
end sp
end Go.Proofs.Ytmjkechkdfobgaa.pv
namespace Go.Proofs.Ytmjkechkdfobgaa.pv
set_option linter.all false
open Go.RowKit
namespace sp
abbrev Cell := S_ringref2_Cell
abbrev Ref := S_ringref2_Memory
def cl (R : Ref) (s : Fin 17) (k : Fin 64) : Cell := gA (gA R.2.2.2.1 s) k
theorem perm_of {l l' : List Int} (h1 : l.Nodup) (h2 : l'.Nodup) (h : ∀ x, x ∈ l ↔ x ∈ l') : l.Perm l' := (List.perm_ext_iff_of_nodup h1 h2).2 h
theorem srtI_nodup {ν : Type} {D : List (Int × ν)} (h : SrtI D) : (D.map (·.1)).Nodup := by
  induction D with
  | nil => exact List.nodup_nil
  | cons q r ih =>
    have h0 := List.pairwise_cons.1 h
    refine List.nodup_cons.2 ⟨fun hm => ?_, ih h0.2⟩
    obtain ⟨p, hp, e⟩ := List.mem_map.1 hm
    have : q.1 < p.1 := h0.1 p hp
    have e : p.1 = q.1 := e
    omega
theorem srtI_key {ν : Type} {D : List (Int × ν)} (h : SrtI D) (x : Int) : (mlI D x).isSome = true ↔ x ∈ D.map (·.1) := by
  rw [Option.isSome_iff_exists, List.mem_map]
  constructor
  · rintro ⟨v, e⟩; exact ⟨(x, v), (mlI_mem h x v).1 e, rfl⟩
  · rintro ⟨⟨a, v⟩, hm, rfl⟩; exact ⟨v, (mlI_mem h a v).2 hm⟩
theorem srtI_len {ν : Type} {D : List (Int × ν)} (h : SrtI D) {K : List Int} (hK : K.Nodup) (hx : ∀ x, (mlI D x).isSome = true ↔ x ∈ K) : D.length = K.length := by
  have := (perm_of (srtI_nodup h) hK fun x => (srtI_key h x).symm.trans (hx x)).length_eq
  rwa [List.length_map] at this
variable {P : Program} (hP : P = Try.prog)
include hP
theorem live6 (N d k75 : Nat) (s : Int) (row : Ar 64 Cell) (R : Ref) : ∀ (f k : Nat) (D : List (Int × Bool)), k ≤ 64 → 64 - k < f → SrtI D →
    ∃ D' : List (Int × Bool), Gr_Live_L6 P N d k75 f s row (k : Int) R D = Gr_Live_L3 P N d k75 (wi .i64 (s + 1)) R D' ∧ SrtI D' ∧ ∀ x, (mlI D' x).isSome = true ↔ (mlI D x).isSome = true ∨ ∃ j : Fin 64, k ≤ j.1 ∧ (gA row j).1 = true ∧ (gA row j).2.2.2.1 = x
  | 0, k, D, _, h, _ => by omega
  | f + 1, k, D, hk, h, hD => by
    rw [Gr_Live_L6_eq hP]
    by_cases h1 : k < 64
    · have hin : inb (k : Int) 64 = true := inb_true (by omega) (by omega)
      rw [dT (by omega), cond_true, dif_pos hin, wi_nat (by omega)]
      have hj : ∀ j : Fin 64, k ≤ j.1 → j = (⟨(k : Int).toNat, inb_lt hin⟩ : Fin 64) ∨ k + 1 ≤ j.1 := fun j hj => by
        by_cases e : j.1 = k
        · left; apply Fin.ext; simp [e]
        · right; omega
      cases hc : (gA row ⟨(k : Int).toNat, inb_lt hin⟩).1 with
      | true =>
        rw [cond_true]
        obtain ⟨D', e1, e2, e3⟩ := live6 N d k75 s row R f (k + 1) _ (by omega) (by omega) (hD.put ((gA row ⟨(k : Int).toNat, inb_lt hin⟩).2.2.2.1) true)
        refine ⟨D', e1, e2, fun x => (e3 x).trans ?_⟩
        rw [mlI_put]
        constructor
        · rintro (h | ⟨j, a, b, c⟩)
          · split at h
            · rename_i e; exact .inr ⟨_, by simp, hc, e⟩
            · exact .inl h
          · exact .inr ⟨j, by omega, b, c⟩
        · rintro (h | ⟨j, a, b, c⟩)
          · left; split <;> simp_all
          · rcases hj j a with e | e
            · left; rw [← e, if_pos c]; rfl
            · exact .inr ⟨j, e, b, c⟩
      | false =>
        rw [cond_false]
        obtain ⟨D', e1, e2, e3⟩ := live6 N d k75 s row R f (k + 1) D (by omega) (by omega) hD
        refine ⟨D', e1, e2, fun x => (e3 x).trans ?_⟩
        constructor
        · rintro (h | ⟨j, a, b, c⟩)
          · exact .inl h
          · exact .inr ⟨j, by omega, b, c⟩
        · rintro (h | ⟨j, a, b, c⟩)
          · exact .inl h
          · rcases hj j a with e | e
            · rw [e, hc] at b; cases b
            · exact .inr ⟨j, e, b, c⟩
    · rw [dF (by omega), cond_false]
      refine ⟨D, rfl, hD, fun x => ⟨.inl, ?_⟩⟩
      rintro (h | ⟨j, a, _⟩)
      · exact h
      · have := j.2; omega
theorem live3 (N d : Nat) (hN : 1001 ≤ N) (R : Ref) : ∀ (f s : Nat) (D : List (Int × Bool)), s ≤ 17 → 17 - s < f → SrtI D →
    ∃ D' : List (Int × Bool), Gr_Live_L3 P N d f (s : Int) R D = some ((D'.length : Int), ()) ∧ SrtI D' ∧ ∀ x, (mlI D' x).isSome = true ↔ (mlI D x).isSome = true ∨ ∃ (i : Fin 17) (j : Fin 64), s ≤ i.1 ∧ (cl R i j).1 = true ∧ (cl R i j).2.2.2.1 = x
  | 0, s, D, _, h, _ => by omega
  | f + 1, s, D, hs, h, hD => by
    rw [Gr_Live_L3_eq hP]
    by_cases h1 : s < 17
    · have hin : inb (s : Int) 17 = true := inb_true (by omega) (by omega)
      rw [dT (by omega), cond_true, dif_pos hin]
      obtain ⟨D1, e1, e2, e3⟩ := live6 hP N d f s (gA R.2.2.2.1 ⟨(s : Int).toNat, inb_lt hin⟩) R N 0 D (by omega) (by omega) hD
      obtain ⟨D', f1, f2, f3⟩ := live3 N d hN R f (s + 1) D1 (by omega) (by omega) e2
      rw [wi_nat (by omega), f1] at e1
      refine ⟨D', e1, f2, fun x => (f3 x).trans ?_⟩
      rw [e3]
      constructor
      · rintro ((h | ⟨j, a, b, c⟩) | ⟨i, j, a, b⟩)
        · exact .inl h
        · exact .inr ⟨⟨(s : Int).toNat, inb_lt hin⟩, j, by simp, b, c⟩
        · exact .inr ⟨i, j, by omega, b⟩
      · rintro (h | ⟨i, j, a, b⟩)
        · exact .inl (.inl h)
        · by_cases e : i.1 = s
          · have : i = ⟨(s : Int).toNat, inb_lt hin⟩ := Fin.ext (by simp [e])
            subst this
            exact .inl (.inr ⟨j, by omega, b⟩)
          · exact .inr ⟨i, j, by omega, b⟩
    · rw [dF (by omega), cond_false]
      refine ⟨D, rfl, hD, fun x => ⟨.inl, ?_⟩⟩
      rintro (h | ⟨i, j, a, _⟩)
      · exact h
      · have := i.2; omega
/-- as many as there are parts -/
theorem live_eq {N d : Nat} (hN : 1001 ≤ N) (R : Ref) (K : List Int) (hK : K.Nodup) (hx : ∀ x, x ∈ K ↔ ∃ (i : Fin 17) (j : Fin 64), (cl R i j).1 = true ∧ (cl R i j).2.2.2.1 = x) : Gr_Live P N (d + 1) R = some ((K.length : Int), ()) := by
  rw [Gr_Live_eq hP]
  obtain ⟨D, e1, e2, e3⟩ := live3 hP N d hN R N 0 [] (by omega) (by omega) SrtI.nil
  have e1 : Gr_Live_L3 P N d N 0 R [] = some ((D.length : Int), ()) := e1
  rw [e1, srtI_len e2 hK fun x => (e3 x).trans ?_]
  rw [hx]
  simp [mlI_nil]
end sp
end Go.Proofs.Ytmjkechkdfobgaa.pv
namespace Go.Proofs.Ytmjkechkdfobgaa.pv
set_option linter.all false
open Go.RowKit
namespace sp
def hit (x : Int) (c : Cell) : Bool := c.1 && c.2.2.2.1 == x
/-- how many cells of a row have a part, from one on -/
def rowD (x : Int) (row : Ar 64 Cell) (k : Nat) : Nat := ((List.finRange 64).drop k).countP fun j => hit x (gA row j)
def cntD (x : Int) (R : Ref) (s : Nat) : Nat := (((List.finRange 17).drop s).map fun i => rowD x (gA R.2.2.2.1 i) 0).sum
def cnt (R : Ref) (x : Int) : Nat := cntD x R 0
theorem drop_fin {n k : Nat} (h : k < n) : (List.finRange n).drop k = ⟨k, h⟩ :: (List.finRange n).drop (k + 1) := by
  rw [List.drop_eq_getElem_cons (by simpa using h)]
  congr 1
  apply Fin.ext; simp
theorem rowD_le (x : Int) (row : Ar 64 Cell) (k : Nat) : rowD x row k ≤ 64 - k := by
  unfold rowD
  refine Nat.le_trans (List.countP_le_length ..) ?_
  simp
theorem rowD_end {x : Int} {row : Ar 64 Cell} {k : Nat} (h : 64 ≤ k) : rowD x row k = 0 := by have := rowD_le x row k; omega
theorem rowD_step {x : Int} {row : Ar 64 Cell} {k : Nat} (h : k < 64) : rowD x row k = rowD x row (k + 1) + if hit x (gA row ⟨k, h⟩) = true then 1 else 0 := by
  unfold rowD; rw [drop_fin h, List.countP_cons]
theorem cntD_end {x : Int} {R : Ref} {s : Nat} (h : 17 ≤ s) : cntD x R s = 0 := by
  unfold cntD; rw [List.drop_of_length_le (by simpa using h)]; rfl
theorem cntD_step {x : Int} {R : Ref} {s : Nat} (h : s < 17) : cntD x R s = rowD x (gA R.2.2.2.1 ⟨s, h⟩) 0 + cntD x R (s + 1) := by
  unfold cntD; rw [drop_fin h, List.map_cons, List.sum_cons]
variable {P : Program} (hP : P = Try.prog)
include hP
theorem oth6 (N d k75 : Nat) (s0 k0 : Nat) (hs : s0 < 17) (hk0 : k0 < 64) (t : Int) (row : Ar 64 Cell) (R : Ref) (x : Int) (hx : x = (cl R ⟨s0, hs⟩ ⟨k0, hk0⟩).2.2.2.1) : ∀ (f k n : Nat), k ≤ 64 → 64 - k < f → n ≤ 100000 + k →
    Gr_Others_L6 P N d k75 f (s0 : Int) (k0 : Int) (n : Int) t row (k : Int) R = Gr_Others_L3 P N d k75 (s0 : Int) (k0 : Int) ((n + rowD x row k : Nat) : Int) (wi .i64 (t + 1)) R
  | 0, k, n, _, h, _ => by omega
  | f + 1, k, n, hk, h, hn => by
    rw [Gr_Others_L6_eq hP]
    by_cases h1 : k < 64
    · have hin : inb (k : Int) 64 = true := inb_true (by omega) (by omega)
      have hi2 : inb (s0 : Int) 17 = true := inb_true (by omega) (by omega)
      have hi3 : inb (k0 : Int) 64 = true := inb_true (by omega) (by omega)
      have ih := fun n hn => oth6 N d k75 s0 k0 hs hk0 t row R x hx f (k + 1) n (by omega) (by omega) hn
      rw [dT (by omega), cond_true, dif_pos hin, dif_pos hi2, dif_pos hi3, rowD_step h1]
      have e1 : (gA (gA R.2.2.2.1 ⟨(s0 : Int).toNat, inb_lt hi2⟩) ⟨(k0 : Int).toNat, inb_lt hi3⟩).2.2.2.1 = x := hx.symm
      have e2 : gA row ⟨(k : Int).toNat, inb_lt hin⟩ = gA row ⟨k, h1⟩ := rfl
      rw [e1, e2, wi_nat (i := k) (by omega)]
      unfold hit
      cases (gA row ⟨k, h1⟩).1 with
      | false =>
        rw [cond_false, Option.bind_some, cond_false, ih n (by omega)]
        simp
      | true =>
        rw [cond_true, Option.bind_some]
        cases ((gA row ⟨k, h1⟩).2.2.2.1 == x) with
        | true =>
          rw [cond_true, wi_nat (by omega), ih (n + 1) (by omega)]
          simp only [Bool.and_self, if_true]
          rw [show n + 1 + rowD x row (k + 1) = n + (rowD x row (k + 1) + 1) by omega]
        | false => rw [cond_false, ih n (by omega)]; simp
    · rw [dF (by omega), cond_false, rowD_end (by omega)]
      simp
theorem oth3 (N d : Nat) (hN : 1001 ≤ N) (s0 k0 : Nat) (hs : s0 < 17) (hk0 : k0 < 64) (R : Ref) (x : Int) (hx : x = (cl R ⟨s0, hs⟩ ⟨k0, hk0⟩).2.2.2.1) : ∀ (f s n : Nat), s ≤ 17 → 17 - s < f → n ≤ 64 * s →
    Gr_Others_L3 P N d f (s0 : Int) (k0 : Int) (n : Int) (s : Int) R = some (decide (((n + cntD x R s : Nat) : Int) > 1), ())
  | 0, s, n, _, h, _ => by omega
  | f + 1, s, n, hs', h, hn => by
    rw [Gr_Others_L3_eq hP]
    by_cases h1 : s < 17
    · have hin : inb (s : Int) 17 = true := inb_true (by omega) (by omega)
      have hr := rowD_le x (gA R.2.2.2.1 ⟨s, h1⟩) 0
      have e := oth6 hP N d f s0 k0 hs hk0 (s : Int) (gA R.2.2.2.1 ⟨(s : Int).toNat, inb_lt hin⟩) R x hx N 0 n (by omega) (by omega) (by omega)
      rw [dT (by omega), cond_true, dif_pos hin, cntD_step h1]
      refine e.trans ?_
      rw [wi_nat (by omega)]
      refine (oth3 N d hN s0 k0 hs hk0 R x hx f (s + 1) _ (by omega) (by omega) ?_).trans ?_
      · show n + rowD x (gA R.2.2.2.1 ⟨s, h1⟩) 0 ≤ _
        omega
      · show some (decide (((n + rowD x (gA R.2.2.2.1 ⟨s, h1⟩) 0 + cntD x R (s + 1) : Nat) : Int) > 1), ()) = _
        rw [Nat.add_assoc]
    · rw [dF (by omega), cond_false, cntD_end (by omega)]
      rfl
theorem others_eq {N d : Nat} (hN : 1001 ≤ N) (s0 k0 : Nat) (hs : s0 < 17) (hk0 : k0 < 64) (R : Ref) : Gr_Others P N (d + 1) (s0 : Int) (k0 : Int) R = some (decide (1 < cnt R (cl R ⟨s0, hs⟩ ⟨k0, hk0⟩).2.2.2.1), ()) := by
  rw [Gr_Others_eq hP]
  generalize hx : (cl R ⟨s0, hs⟩ ⟨k0, hk0⟩).2.2.2.1 = x
  have e := oth3 hP N d hN s0 k0 hs hk0 R x hx.symm N 0 0 (by omega) (by omega) (by omega)
  rw [Nat.zero_add] at e
  have e1 : (decide (((cntD x R 0 : Nat) : Int) > 1)) = decide (1 < cnt R x) := by
    unfold cnt
    exact decide_eq_decide.2 (by omega)
  rw [e1] at e
  exact e
theorem in_eq {N d : Nat} (n a b : Int) : G_ringref2_In P N (d + 1) n a b = some (decide (a ≤ n ∧ n ≤ b), ()) := by
  rw [G_ringref2_In_eq hP]
  by_cases h : a ≤ n
  · rw [dT h, cond_true, Option.bind_some]
    simp [h]
  · rw [dF h, cond_false, Option.bind_some]
    simp [h]
/-- is there such a space? -/
def isS (R : Ref) (s : Int) : Bool := if h : 1 ≤ s ∧ s ≤ 16 then gA R.2.2.1 ⟨s.toNat, by omega⟩ else false
theorem there_eq {N d : Nat} (s : Int) (R : Ref) : Gr_There P N (d + 2) s R = some (isS R s, ()) := by
  rw [Gr_There_eq hP, in_eq hP, Option.bind_some]
  unfold isS
  by_cases h : 1 ≤ s ∧ s ≤ 16
  · have hi : inb s 17 = true := inb_true (by omega) (by omega)
    rw [dT h, cond_true, dif_pos hi, Option.bind_some, dif_pos h]
  · rw [dF h, cond_false, Option.bind_some, dif_neg h]
end sp
end Go.Proofs.Ytmjkechkdfobgaa.pv
namespace Go.Proofs.Ytmjkechkdfobgaa.pv
set_option linter.all false
open Go.RowKit
namespace sp
def hb (r w q : Int) : Bool := ((wi .i64 (w.tdiv q)).tmod 2 == 1) && ((wi .i64 (r.tdiv q)).tmod 2 == 0)
theorem hb_bits : ∀ a b : Fin 8, (!(hb (a.1 : Int) (b.1 : Int) 1 || hb (a.1 : Int) (b.1 : Int) 2 || hb (a.1 : Int) (b.1 : Int) 4)) = (bits .and .i64 (a.1 : Int) (b.1 : Int) == (b.1 : Int)) := by decide
theorem hb_and {r w : Int} (hr : 0 ≤ r ∧ r ≤ 7) (hw : 0 ≤ w ∧ w ≤ 7) : (!(hb r w 1 || hb r w 2 || hb r w 4)) = (bits .and .i64 r w == w) := by
  have h := hb_bits ⟨r.toNat, by omega⟩ ⟨w.toNat, by omega⟩
  rw [show ((⟨r.toNat, by omega⟩ : Fin 8).1 : Int) = r from Int.toNat_of_nonneg hr.1, show ((⟨w.toNat, by omega⟩ : Fin 8).1 : Int) = w from Int.toNat_of_nonneg hw.1] at h
  exact h
variable {P : Program} (hP : P = Try.prog)
include hP
theorem has_step (N d k : Nat) (r w : Int) (T : Ar 3 Int) (t : Nat) (ht : t < 3) (q : Int) (hq : gA T ⟨t, ht⟩ = q) (h0 : (q != 0) = true) :
    G_ringref2_Has_L2 P N d (k + 1) r w T (t : Int) = if hb r w q = true then some (false, ()) else G_ringref2_Has_L2 P N d k r w T ((t + 1 : Nat) : Int) := by
  have hin : inb (t : Int) 3 = true := inb_true (by omega) (by omega)
  have e : gA T ⟨(t : Int).toNat, inb_lt hin⟩ = q := hq
  rw [G_ringref2_Has_L2_eq hP, dT (by omega), cond_true, dif_pos hin, e, h0, cond_true, wi_nat (by omega)]
  unfold hb
  cases ((wi .i64 (w.tdiv q)).tmod 2 == 1) with
  | false => simp
  | true =>
    rw [cond_true, cond_true, Option.bind_some]
    cases ((wi .i64 (r.tdiv q)).tmod 2 == 0) <;> rfl
theorem has_eq {N d : Nat} (hN : 1001 ≤ N) (r w : Int) (hr : 0 ≤ r ∧ r ≤ 7) (hw : 0 ≤ w ∧ w ≤ 7) : G_ringref2_Has P N (d + 1) r w = some ((bits .and .i64 r w == w), ()) := by
  rw [G_ringref2_Has_eq hP, ← hb_and hr hw]
  obtain ⟨N, rfl⟩ : ∃ M, N = M + 4 := ⟨N - 4, by omega⟩
  rw [show (0 : Int) = ((0 : Nat) : Int) from rfl]
  rw [has_step hP _ _ (N + 3) r w _ 0 (by omega) 1 rfl rfl, has_step hP _ _ (N + 2) r w _ 1 (by omega) 2 rfl rfl, has_step hP _ _ (N + 1) r w _ 2 (by omega) 4 rfl rfl]
  cases hb r w 1 with
  | true => rfl
  | false =>
    cases hb r w 2 with
    | true => rfl
    | false =>
      cases hb r w 4 with
      | true => rfl
      | false =>
        simp only [Bool.false_eq_true, if_false]
        rw [G_ringref2_Has_L2_eq hP]
        rfl
end sp
end Go.Proofs.Ytmjkechkdfobgaa.pv
namespace Go.Proofs.Ytmjkechkdfobgaa.pv
set_option linter.all false
open Go.RowKit
namespace sp
theorem sortI_perm {l l' : List Int} (h : l'.Perm l) (hs : l.Pairwise fun a b => a < b) : sortI l' = l := by
  have h1 : (sortI l').Perm l := (List.mergeSort_perm l' _).trans h
  have h2 : (sortI l').Pairwise fun a b => decide (a ≤ b) = true := List.pairwise_mergeSort (fun a b c h1 h2 => by simp at *; omega) (fun a b => by simp; omega) l'
  have h3 : l.Pairwise fun a b => decide (a ≤ b) = true := hs.imp fun h => by simp; omega
  refine h1.eq_of_pairwise (le := fun a b => decide (a ≤ b) = true) (fun a b _ _ h1 h2 => ?_) h2 h3
  simp at h1 h2
  omega
variable {P : Program} (hP : P = Try.prog)
include hP
theorem sort_eq (N d : Nat) (l : List Int) (h : l.length < 1000000) : G_slices_Sort P N (d + 1) l = some ((), sortI l, ()) := by
  have : G_slices_Sort P N (d + 1) l = bif Nat.blt l.length 1000000 then some ((), sortI l, ()) else none := rfl
  rw [this, show Nat.blt l.length 1000000 = true from Nat.ble_eq_true_of_le h, cond_true]
theorem spaces_run {N d : Nat} (st : St) (smap : List (Int × Option Nat)) (hs : SrtI smap) (hl : smap.length ≤ 1000) (π : List (Int × Option Nat)) (hπ : π.Perm smap) :
    ∃ s', foldS (fun (p : Int × Option Nat) (s : List Int) => if lenOk (s.length + 1) 8 = true then some (s ++ [p.1]) else none) π [] = some s' ∧ ((G_slices_Sort P N (d + 1) s').bind fun x => some (x.2.1, st, smap, ())) = some (smap.map (·.1), st, smap, ()) := by
  have key : ∀ (π : List (Int × Option Nat)) (s : List Int), s.length + π.length ≤ 1000 → foldS (fun p s => if lenOk (s.length + 1) 8 = true then some (s ++ [p.1]) else none) π s = some (s ++ π.map (·.1)) := by
    intro π
    induction π with
    | nil => intro s _; simp [foldS]
    | cons p π ih =>
      intro s h
      rw [List.length_cons] at h
      simp only [foldS]
      rw [if_pos (lenOk_true (by omega) (by omega)), Option.bind_some, ih _ (by simp; omega)]
      simp
  have hlen := hπ.length_eq
  refine ⟨_, key π [] (by simp; omega), ?_⟩
  rw [List.nil_append, sort_eq hP N d _ (by rw [List.length_map]; omega), Option.bind_some, sortI_perm (hπ.map _) (List.pairwise_map.2 hs)]
theorem spaces_eq {N d : Nat} (st : St) (row : List (Option Nat)) (smap : List (Int × Option Nat)) (hs : SrtI smap) (hl : smap.length ≤ 1000) :
    Gm_Spaces P N (d + 2) st row smap = some (smap.map (·.1), st, smap, ()) := by
  rw [Gm_Spaces_eq hP]
  refine rr4_eq (E := EE P) (prim := prims) (sm := sums) (N := N) (d := d + 1) (g := 23) (r := 3) (ks := []) (os := [(.bx (.pr cI (.pr cI (.pr cI (.pr (.sr 1) (.pr (.sr 3) .un)))))), (.rw 93 1 (.vp 1)), .no]) (it := 9) (a := cI) (b := .vm 2) (σ := List Int) (li := 8) (u := ()) (own := true) (l := 2) (lg := 6) (fun cur s ρ => Gm_Spaces_R3_X cur st row smap s ρ)
    (fun e s ρ => planX (Gm_Spaces_R3_X none st row smap s ρ) 8 (.it cI (.vm 2) true 2 6 ρ none (some e))) (fun _ _ _ => rfl) (fun _ _ _ => rfl) (fun _ _ _ _ => rfl)
    (fun p s => if lenOk (s.length + 1) 8 = true then some ((s : List Int) ++ [(show Int from p.1)]) else none) (fun p s ρ => ?_)
    (fun s => (G_slices_Sort P N (d + 1) s).bind fun x => some (x.2.1, st, smap, ())) (fun s ρ => ?_) [] smap _ (fun π hπ => ?_)
  · refine (Gm_Spaces_R3_S_eq hP N (d + 1) p st row smap s ρ).trans ?_
    simp only [List.length_singleton]
    cases lenOk (s.length + 1) 8 with
    | true => rfl
    | false => rfl
  · exact Gm_Spaces_R3_E_eq hP N (d + 1) st row smap s ρ
  · exact spaces_run hP st smap hs hl π hπ
end sp
end Go.Proofs.Ytmjkechkdfobgaa.pv
namespace Go.Proofs.Ytmjkechkdfobgaa.pv
set_option linter.all false
open Go.RowKit
namespace sp
def spl (I : Ar 17 Bool) (s : Nat) : List Int := (((List.finRange 17).drop s).filter fun i => gA I i).map fun i => (i.1 : Int)
theorem spl_end {I : Ar 17 Bool} {s : Nat} (h : 17 ≤ s) : spl I s = [] := by
  unfold spl; rw [List.drop_of_length_le (by simpa using h)]; rfl
theorem spl_step {I : Ar 17 Bool} {s : Nat} (h : s < 17) : spl I s = if gA I ⟨s, h⟩ = true then (s : Int) :: spl I (s + 1) else spl I (s + 1) := by
  unfold spl
  rw [drop_fin h, List.filter_cons]
  split <;> rfl
theorem spl_mem {I : Ar 17 Bool} {x : Int} : x ∈ spl I 0 ↔ ∃ i : Fin 17, gA I i = true ∧ (i.1 : Int) = x := by
  unfold spl
  rw [List.drop_zero, List.mem_map]
  constructor
  · rintro ⟨i, h, e⟩; exact ⟨i, (List.mem_filter.1 h).2, e⟩
  · rintro ⟨i, h, e⟩; exact ⟨i, List.mem_filter.2 ⟨List.mem_finRange i, h⟩, e⟩
theorem spl_srt (I : Ar 17 Bool) : (spl I 0).Pairwise fun a b => a < b := by
  unfold spl
  rw [List.drop_zero]
  refine List.pairwise_map.2 (List.Pairwise.filter _ ?_)
  exact (List.pairwise_lt_finRange 17).imp fun h => by
    have : _ < _ := h
    rw [Fin.lt_def] at this
    omega
/-- two lists in order that hold the same are the same -/
theorem srt_eq {l l' : List Int} (h : l.Pairwise fun a b => a < b) (h' : l'.Pairwise fun a b => a < b) (e : ∀ x, x ∈ l ↔ x ∈ l') : l = l' := by
  have n : ∀ {l : List Int}, (l.Pairwise fun a b => a < b) → l.Nodup := fun h => h.imp fun h e => by omega
  exact (perm_of (n h) (n h') e).eq_of_pairwise (le := fun a b => a < b) (fun a b _ _ h1 h2 => by omega) h h'
variable {P : Program} (hP : P = Try.prog)
include hP
theorem rsp_loop (N d : Nat) (I : Ar 17 Bool) (R : Ref) : ∀ (f s : Nat) (l : List Int), s ≤ 17 → 17 - s < f → l.length ≤ s → Gr_Spaces_L3 P N d f I (s : Int) R l = some (l ++ spl I s, ())
  | 0, s, l, _, h, _ => by omega
  | f + 1, s, l, hs, h, hl => by
    rw [Gr_Spaces_L3_eq hP]
    by_cases h1 : s < 17
    · have hin : inb (s : Int) 17 = true := inb_true (by omega) (by omega)
      rw [dT (by omega), cond_true, dif_pos hin, spl_step h1, wi_nat (by omega)]
      have e : gA I ⟨(s : Int).toNat, inb_lt hin⟩ = gA I ⟨s, h1⟩ := rfl
      rw [e]
      cases gA I ⟨s, h1⟩ with
      | true =>
        rw [cond_true, lenOk_true (by simp; omega) (by omega), cond_true, rsp_loop N d I R f (s + 1) _ (by omega) (by omega) (by simp; omega)]
        simp
      | false =>
        rw [cond_false, rsp_loop N d I R f (s + 1) l (by omega) (by omega) (by omega)]
        simp
    · rw [dF (by omega), cond_false, spl_end (by omega), List.append_nil]
theorem rspaces_eq {N d : Nat} (hN : 1001 ≤ N) (R : Ref) : Gr_Spaces P N (d + 1) R = some (spl R.2.2.1 0, ()) := by
  rw [Gr_Spaces_eq hP]
  have e := rsp_loop hP N d R.2.2.1 R N 0 [] (by omega) (by omega) (by simp)
  rw [List.nil_append] at e
  exact e
end sp
end Go.Proofs.Ytmjkechkdfobgaa.pv
namespace Go.Proofs.Ytmjkechkdfobgaa.pv
set_option linter.all false
open Go.RowKit
namespace sp
abbrev SM := List (Int × Option Nat)
abbrev Ent := S_space_entry
abbrev MP := List (List (Int × Ent))
section
variable {P : Program} (hP : P = Try.prog)
include hP
theorem eq_loop (N d : Nat) (l : List Int) (hl : l.length ≤ 1000) : ∀ (f t : Nat), t ≤ l.length → l.length - t < f → G_slices_Equal_L4 P N d f l l (l.length : Int) (t : Int) = some (true, ())
  | 0, t, _, h => by omega
  | f + 1, t, ht, h => by
    rw [G_slices_Equal_L4_eq hP]
    by_cases h1 : t < l.length
    · rw [dT (by omega), cond_true, dT (by omega), cond_true, Int.toNat_natCast, lget_lt h1, Option.bind_some, cond_true, Option.bind_some, neF rfl, cond_false, wi_nat (by omega), eq_loop N d l hl f (t + 1) (by omega) (by omega)]
    · rw [dF (by omega), cond_false]
theorem equal_self {N d : Nat} (hN : 1001 ≤ N) (l : List Int) (hl : l.length ≤ 1000) : G_slices_Equal P N (d + 1) l l = some (true, ()) := by
  rw [G_slices_Equal_eq hP, neF rfl, cond_false]
  exact eq_loop hP N d l hl N 0 (by omega) (by omega)
theorem eq_loop2 (N d : Nat) (l : List Int) (hl : l.length ≤ 1000) : ∀ (f t : Nat), t ≤ l.length → l.length - t < f → G_slices_Equal_f32_L4 P N d f l l (l.length : Int) (t : Int) = some (true, ())
  | 0, t, _, h => by omega
  | f + 1, t, ht, h => by
    rw [G_slices_Equal_f32_L4_eq hP]
    by_cases h1 : t < l.length
    · rw [dT (by omega), cond_true, dT (by omega), cond_true, Int.toNat_natCast, lget_lt h1, Option.bind_some, cond_true, Option.bind_some, neF rfl, cond_false, wi_nat (by omega), eq_loop2 N d l hl f (t + 1) (by omega) (by omega)]
    · rw [dF (by omega), cond_false]
theorem equal_self2 {N d : Nat} (hN : 1001 ≤ N) (l : List Int) (hl : l.length ≤ 1000) : G_slices_Equal_f32 P N (d + 1) l l = some (true, ()) := by
  rw [G_slices_Equal_f32_eq hP, neF rfl, cond_false]
  exact eq_loop2 hP N d l hl N 0 (by omega) (by omega)
end
/-- the number of a space's map -/
def ix (smap : SM) (s : Int) : Option Nat := (mlI smap s).getD none
/-- a space's map -/
def ent (smap : SM) (mp : MP) (s : Int) : List (Int × Ent) := match ix smap s with
  | some i => (mp[i]?).getD []
  | none => []
/-- spaces and their maps, well kept -/
structure Sp (smap : SM) (mp : MP) : Prop where
  srt : SrtI smap
  key : ∀ s o, mlI smap s = some o → 1 ≤ s ∧ s ≤ 16 ∧ ∃ i, o = some i ∧ i < mp.length
  inj : ∀ s s' i, ix smap s = some i → ix smap s' = some i → s = s'
  ms : ∀ s, SrtI (ent smap mp s)
theorem Sp.ix_none {smap : SM} {mp : MP} (h : Sp smap mp) {s : Int} (hn : ix smap s = none) : mlI smap s = none := by
  cases e : mlI smap s with
  | none => rfl
  | some o =>
    obtain ⟨_, _, i, rfl, _⟩ := h.key s o e
    unfold ix at hn
    rw [e] at hn
    cases hn
theorem Sp.ix_some {smap : SM} {mp : MP} (h : Sp smap mp) {s : Int} {i : Nat} (e : ix smap s = some i) : mlI smap s = some (some i) ∧ 1 ≤ s ∧ s ≤ 16 ∧ i < mp.length := by
  unfold ix at e
  cases e1 : mlI smap s with
  | none => rw [e1] at e; cases e
  | some o =>
    obtain ⟨a, b, j, rfl, c⟩ := h.key s o e1
    rw [e1] at e
    cases e
    exact ⟨rfl, a, b, c⟩
theorem ent_at {smap : SM} {mp : MP} {s : Int} {i : Nat} (e : ix smap s = some i) (hi : i < mp.length) : lget mp i = some (ent smap mp s) := by
  unfold ent
  rw [e]
  simp only [lget]
  rw [List.getElem?_eq_getElem hi]; rfl
/-- one space's map changed -/
theorem Sp.ent_set {smap : SM} {mp : MP} (h : Sp smap mp) {s : Int} {i : Nat} (e : ix smap s = some i) (D : List (Int × Ent)) (s' : Int) : ent smap (lset mp i D) s' = if s' = s then D else ent smap mp s' := by
  have hi := (h.ix_some e).2.2.2
  unfold ent
  by_cases hs : s' = s
  · subst hs
    rw [e, if_pos rfl]
    simp only
    rw [get_lset, if_pos ⟨rfl, hi⟩]; rfl
  · rw [if_neg hs]
    cases e' : ix smap s' with
    | none => rfl
    | some j =>
      have hne : i ≠ j := fun hij => hs (h.inj s' s i (hij ▸ e') e)
      simp only
      rw [get_lset, if_neg (fun h => hne h.1)]
theorem Sp.set {smap : SM} {mp : MP} (h : Sp smap mp) {s : Int} {i : Nat} (e : ix smap s = some i) {D : List (Int × Ent)} (hD : SrtI D) : Sp smap (lset mp i D) where
  srt := h.srt
  key s o ho := by
    obtain ⟨a, b, j, c, d⟩ := h.key s o ho
    exact ⟨a, b, j, c, by rw [lset_len]; exact d⟩
  inj := h.inj
  ms s' := by
    rw [h.ent_set e]
    split
    · exact hD
    · exact h.ms s'
end sp
end Go.Proofs.Ytmjkechkdfobgaa.pv
namespace Go.Proofs.Ytmjkechkdfobgaa.pv
set_option linter.all false
open Go.RowKit
namespace sp
def zc : Cell := (false, 0, nA 16 0, 0, ())
/-- a page's cell in the document's memory -/
def cellOf (pg : List Pg) (π : Nat → Int) : Option Ent → Cell
  | none => zc
  | some e => (true, e.2.1, dat pg (e.1.getD 0), π (e.1.getD 0), ())
structure Rel (F S : Int) (st : St) (L : List Nat) (smap : SM) (mp : MP) (pg : List Pg) (R : Ref) (π : Nat → Int) : Prop where
  f : st.1 = F
  s : st.2.1 = S
  fr : 4 ≤ F ∧ F ≤ 64
  sr : 0 ≤ S ∧ S ≤ 100
  room : R.1 = F + S
  clk : 0 ≤ st.2.2.1
  nd : L.Nodup
  lt : ∀ p ∈ L, p < pg.length
  here : (hereC pg L : Int) ≤ F
  slot : (L.length : Int) - hereC pg L ≤ S
  sp : Sp smap mp
  isr : ∀ i : Fin 17, gA R.2.2.1 i = (ix smap i.1).isSome
  cells : ∀ (i : Fin 17) (k : Fin 64), cl R i k = cellOf pg π (mlI (ent smap mp i.1) k.1)
  ents : ∀ s k e, mlI (ent smap mp s) k = some e → 0 ≤ k ∧ k < 64 ∧ (∃ p, e.1 = some p ∧ p ∈ L) ∧ 0 ≤ e.2.1 ∧ e.2.1 ≤ 7
  inj : ∀ p ∈ L, ∀ q ∈ L, π p = π q → p = q
  parts : ∀ p ∈ L, π p ≤ R.2.1
  pn : 0 ≤ R.2.1
  us : ∀ p ∈ L, usr pg p = cnt R (π p) ∧ 1 ≤ usr pg p
  one : ∀ s k k' e e', mlI (ent smap mp s) k = some e → mlI (ent smap mp s) k' = some e' → e.1 = e'.1 → k = k'
theorem sum_pos : ∀ {l : List Nat}, 0 < l.sum ↔ ∃ x ∈ l, 0 < x
  | [] => by simp
  | a :: l => by
    rw [List.sum_cons]
    constructor
    · intro h
      by_cases ha : 0 < a
      · exact ⟨a, List.mem_cons_self .., ha⟩
      · obtain ⟨x, hx, h0⟩ := (sum_pos (l := l)).1 (by omega)
        exact ⟨x, List.mem_cons_of_mem _ hx, h0⟩
    · rintro ⟨x, hx, h0⟩
      rcases List.mem_cons.1 hx with e | hx
      · subst e; omega
      · have := (sum_pos (l := l)).2 ⟨x, hx, h0⟩; omega
theorem cnt_pos {R : Ref} {x : Int} : 0 < cnt R x ↔ ∃ (i : Fin 17) (j : Fin 64), hit x (cl R i j) = true := by
  unfold cnt cntD
  rw [List.drop_zero, sum_pos]
  constructor
  · rintro ⟨n, hn, h0⟩
    obtain ⟨i, _, rfl⟩ := List.mem_map.1 hn
    unfold rowD at h0
    obtain ⟨j, _, hj⟩ := List.countP_pos_iff.1 h0
    exact ⟨i, j, hj⟩
  · rintro ⟨i, j, h⟩
    refine ⟨_, List.mem_map.2 ⟨i, List.mem_finRange i, rfl⟩, ?_⟩
    unfold rowD
    exact List.countP_pos_iff.2 ⟨j, by rw [List.drop_zero]; exact List.mem_finRange j, h⟩
section
variable {F S : Int} {st : St} {L : List Nat} {smap : SM} {mp : MP} {pg : List Pg} {R : Ref} {π : Nat → Int}
theorem Rel.len (h : Rel F S st L smap mp pg R π) : (L.length : Int) ≤ F + S ∧ L.length ≤ 200 := by
  have := h.here; have := h.slot; have := h.fr; have := h.sr
  constructor <;> omega
/-- a mapped cell's part is a page's -/
theorem Rel.hit_iff (h : Rel F S st L smap mp pg R π) {i : Fin 17} {k : Fin 64} {x : Int} : hit x (cl R i k) = true ↔ ∃ e p, mlI (ent smap mp i.1) k.1 = some e ∧ e.1 = some p ∧ p ∈ L ∧ π p = x := by
  rw [h.cells]
  cases e : mlI (ent smap mp i.1) k.1 with
  | none => simp [cellOf, hit, zc]
  | some en =>
    obtain ⟨_, _, ⟨p, h1, h2⟩, _⟩ := h.ents _ _ _ e
    simp only [cellOf, hit, h1, Option.getD_some, Bool.true_and, beq_iff_eq]
    constructor
    · intro hx; exact ⟨en, p, rfl, h1, h2, hx⟩
    · rintro ⟨e', p', h3, h4, _, h5⟩
      cases h3
      rw [h1] at h4
      cases h4
      exact h5
theorem Rel.parts_iff (h : Rel F S st L smap mp pg R π) (x : Int) : x ∈ L.map π ↔ ∃ (i : Fin 17) (j : Fin 64), (cl R i j).1 = true ∧ (cl R i j).2.2.2.1 = x := by
  rw [List.mem_map]
  constructor
  · rintro ⟨p, hp, rfl⟩
    have h1 := h.us p hp
    obtain ⟨i, j, hh⟩ := cnt_pos.1 (show 0 < cnt R (π p) by omega)
    unfold hit at hh
    simp only [Bool.and_eq_true, beq_iff_eq] at hh
    exact ⟨i, j, hh⟩
  · rintro ⟨i, j, h1, h2⟩
    obtain ⟨e, p, _, _, h3, h4⟩ := h.hit_iff.1 (show hit x (cl R i j) = true by unfold hit; rw [h1, h2]; simp)
    exact ⟨p, h3, h4⟩
theorem Rel.parts_nodup (h : Rel F S st L smap mp pg R π) : (L.map π).Nodup := by
  refine List.pairwise_map.2 ?_
  have h1 := h.nd
  have h2 := h.inj
  revert h1 h2
  generalize L = M
  intro h1 h2
  induction M with
  | nil => exact List.Pairwise.nil
  | cons a M ih =>
    have h3 := List.nodup_cons.1 h1
    refine List.pairwise_cons.2 ⟨fun b hb e => h3.1 ?_, ih h3.2 fun p hp q hq => h2 p (List.mem_cons_of_mem _ hp) q (List.mem_cons_of_mem _ hq)⟩
    rw [h2 a (List.mem_cons_self ..) b (List.mem_cons_of_mem _ hb) e]
    exact hb
theorem Rel.live {P : Program} (hP : P = Try.prog) {N d : Nat} (hN : 1001 ≤ N) (h : Rel F S st L smap mp pg R π) : Gr_Live P N (d + 1) R = some ((L.length : Int), ()) := by
  rw [live_eq hP hN R (L.map π) h.parts_nodup h.parts_iff, List.length_map]
theorem Rel.free {P : Program} (hP : P = Try.prog) {N d : Nat} (hN : 1001 ≤ N) (h : Rel F S st L smap mp pg R π) : Gm_Free P N (d + 2) st (L.map some) smap pg = some ((F - hereC pg L, S - ((L.length : Int) - hereC pg L), ()), ()) := by
  have h1 := h.fr; have h2 := h.sr; have h3 := h.len
  rw [free_eq hP hN st smap pg L h.lt (by omega) (by rw [h.f]; omega) (by rw [h.s]; omega), h.f, h.s]
theorem Rel.others {P : Program} (hP : P = Try.prog) {N d : Nat} (hN : 1001 ≤ N) (h : Rel F S st L smap mp pg R π) (i : Fin 17) (k : Fin 64) {e : Ent} {p : Nat} (he : mlI (ent smap mp i.1) k.1 = some e) (hp : e.1 = some p) :
    Gr_Others P N (d + 1) (i.1 : Int) (k.1 : Int) R = some (decide (1 < usr pg p), ()) := by
  obtain ⟨_, _, ⟨q, h1, h2⟩, _⟩ := h.ents _ _ _ he
  rw [hp] at h1
  cases h1
  have h3 := h.us p h2
  rw [others_eq hP hN i.1 k.1 i.2 k.2 R]
  have h4 : (cl R ⟨i.1, i.2⟩ ⟨k.1, k.2⟩).2.2.2.1 = π p := by
    show (cl R i k).2.2.2.1 = π p
    rw [h.cells, he]
    simp [cellOf, hp]
  have h5 : (1 < cnt R (π p)) ↔ (1 < usr pg p) := by omega
  rw [h4, decide_eq_decide.2 h5]
end
end sp
end Go.Proofs.Ytmjkechkdfobgaa.pv
namespace Go.Proofs.Ytmjkechkdfobgaa.pv
set_option linter.all false
open Go.RowKit
namespace sp
theorem ix_nil (s : Int) : ix [] s = none := rfl
theorem ent_nil (mp : MP) (s : Int) : ent [] mp s = [] := rfl
theorem rel_init {F S : Int} (hf : 4 ≤ F ∧ F ≤ 64) (hs : 0 ≤ S ∧ S ≤ 64) : Rel F S (F, S, 0, (), (), ()) [] [] [] [] (wi .i64 (F + S), 0, nA 17 false, nA 17 (nA 64 zc), ()) (fun _ => 0) where
  f := rfl
  s := rfl
  fr := hf
  sr := by omega
  room := wi64 (by omega) (by omega)
  clk := by show (0 : Int) ≤ 0; omega
  nd := List.nodup_nil
  lt p h := nomatch h
  here := by show (0 : Int) ≤ F; omega
  slot := by show (0 : Int) - 0 ≤ S; omega
  sp := ⟨SrtI.nil, fun s o h => (by rw [mlI_nil] at h; cases h), fun s s' i h _ => (by rw [ix_nil] at h; cases h), fun s => (by rw [ent_nil]; exact SrtI.nil)⟩
  isr i := by rw [ix_nil]; exact gA_nA false i
  cells i k := by
    rw [ent_nil, mlI_nil]
    show gA (gA (nA 17 (nA 64 zc)) i) k = zc
    rw [gA_nA, gA_nA]
  ents s k e h := by rw [ent_nil, mlI_nil] at h; cases h
  inj p h := nomatch h
  parts p h := nomatch h
  pn := by show (0 : Int) ≤ 0; omega
  us p h := nomatch h
  one s k k' e e' h := by rw [ent_nil, mlI_nil] at h; cases h
section
variable {F S : Int} {st : St} {L : List Nat} {smap : SM} {mp : MP} {pg : List Pg} {R : Ref} {π : Nat → Int}
theorem Rel.spaces (h : Rel F S st L smap mp pg R π) : smap.map (·.1) = spl R.2.2.1 0 := by
  refine srt_eq (List.pairwise_map.2 h.sp.srt) (spl_srt _) fun x => ?_
  rw [spl_mem, ← srtI_key h.sp.srt]
  constructor
  · intro hx
    obtain ⟨o, e⟩ := Option.isSome_iff_exists.1 hx
    obtain ⟨a, b, i, rfl, c⟩ := h.sp.key x o e
    refine ⟨⟨x.toNat, by omega⟩, ?_, by show ((x.toNat : Nat) : Int) = x; omega⟩
    rw [h.isr]
    show (ix smap ((x.toNat : Nat) : Int)).isSome = true
    rw [Int.toNat_of_nonneg (by omega)]
    unfold ix
    rw [e]; rfl
  · rintro ⟨i, h1, rfl⟩
    rw [h.isr] at h1
    obtain ⟨j, e⟩ := Option.isSome_iff_exists.1 h1
    rw [(h.sp.ix_some e).1]; rfl
theorem Rel.smlen (h : Rel F S st L smap mp pg R π) : smap.length ≤ 17 := by
  have := congrArg List.length h.spaces
  rw [List.length_map] at this
  rw [this]
  unfold spl
  rw [List.length_map]
  exact Nat.le_trans (List.length_filter_le ..) (by simp)
/-- the document's 'is there such a space?' -/
theorem Rel.isS (h : Rel F S st L smap mp pg R π) (s : Int) : isS R s = (ix smap s).isSome := by
  unfold sp.isS
  by_cases h1 : 1 ≤ s ∧ s ≤ 16
  · rw [dif_pos h1, h.isr]
    show (ix smap ((s.toNat : Nat) : Int)).isSome = _
    rw [Int.toNat_of_nonneg (by omega)]
  · rw [dif_neg h1]
    cases e : ix smap s with
    | none => rfl
    | some i =>
      have := h.sp.ix_some e
      exact absurd ⟨this.2.1, this.2.2.1⟩ h1
end
end sp
end Go.Proofs.Ytmjkechkdfobgaa.pv
namespace Go.Proofs.Ytmjkechkdfobgaa.pv
set_option linter.all false
open Go.RowKit
namespace sp
theorem cnt_congr {R R' : Ref} (h : ∀ i j, cl R' i j = cl R i j) (x : Int) : cnt R' x = cnt R x := by
  have e : ∀ i : Fin 17, rowD x (gA R'.2.2.2.1 i) 0 = rowD x (gA R.2.2.2.1 i) 0 := fun i => by
    unfold rowD
    congr 1
    funext j
    show hit x (cl R' i j) = hit x (cl R i j)
    rw [h]
  unfold cnt cntD
  rw [funext e]
theorem ix_put (smap : SM) (s : Int) (n : Nat) (s' : Int) : ix (mpI smap s (some n)) s' = if s = s' then some n else ix smap s' := by
  unfold ix
  rw [mlI_put]
  split <;> rfl
def mkR (R : Ref) (s : Nat) (h : s < 17) : Ref := u3 (u2 R (sA R.2.2.1 ⟨s, h⟩ true)) (sA R.2.2.2.1 ⟨s, h⟩ (nA 64 zc))
section
variable {F S : Int} {st : St} {L : List Nat} {smap : SM} {mp : MP} {pg : List Pg} {R : Ref} {π : Nat → Int}
theorem Rel.make (h : Rel F S st L smap mp pg R π) {s : Nat} (hs : s < 17) (h1 : 1 ≤ s) (hn : ix smap s = none) : Rel F S st L (mpI smap s (some mp.length)) (mp ++ [[]]) pg (mkR R s hs) π ∧ ent (mpI smap s (some mp.length)) (mp ++ [[]]) s = [] ∧ ∀ s', s' ≠ (s : Int) → ent (mpI smap s (some mp.length)) (mp ++ [[]]) s' = ent smap mp s' := by
  have hsp := h.sp
  have e1 : ent (mpI smap s (some mp.length)) (mp ++ [[]]) s = [] := by
    unfold ent; rw [ix_put, if_pos rfl]; simp
  have e2 : ∀ s', s' ≠ (s : Int) → ent (mpI smap s (some mp.length)) (mp ++ [[]]) s' = ent smap mp s' := fun s' hne => by
    unfold ent
    rw [ix_put, if_neg (fun e => hne e.symm)]
    cases e : ix smap s' with
    | none => rfl
    | some i =>
      simp only
      rw [List.getElem?_append_left (hsp.ix_some e).2.2.2]
  have e3 : ent smap mp s = [] := by unfold ent; rw [hn]
  have e4 : ∀ s', ent (mpI smap s (some mp.length)) (mp ++ [[]]) s' = ent smap mp s' := fun s' => by
    by_cases hne : s' = (s : Int)
    · rw [hne, e1, e3]
    · exact e2 s' hne
  have ec : ∀ i k, cl (mkR R s hs) i k = cl R i k := fun i k => by
    show gA (gA (sA R.2.2.2.1 ⟨s, hs⟩ (nA 64 zc)) i) k = _
    rw [gA_sA]
    split
    · rename_i e
      rw [gA_nA, ← e, h.cells]
      show zc = cellOf pg π (mlI (ent smap mp (s : Int)) k.1)
      rw [e3]; rfl
    · rfl
  refine ⟨⟨h.f, h.s, h.fr, h.sr, h.room, h.clk, h.nd, h.lt, h.here, h.slot, ⟨hsp.srt.put _ _, fun s' o ho => ?_, fun a b i ha hb => ?_, fun s' => by rw [e4]; exact hsp.ms s'⟩, fun i => ?_, fun i k => by rw [ec, e4]; exact h.cells i k, fun s' k e he => h.ents s' k e (by rw [← e4]; exact he), h.inj, h.parts, h.pn, fun p hp => by rw [cnt_congr ec]; exact h.us p hp, fun s' k k' e e' he he' => h.one s' k k' e e' (by rw [← e4]; exact he) (by rw [← e4]; exact he')⟩, e1, e2⟩
  · rw [mlI_put] at ho
    split at ho
    · rename_i e
      cases ho
      exact ⟨by omega, by omega, mp.length, rfl, by simp⟩
    · obtain ⟨a, b, i, c, d⟩ := hsp.key s' o ho
      exact ⟨a, b, i, c, by simp; omega⟩
  · rw [ix_put] at ha hb
    have hlt : ∀ {c j}, ix smap c = some j → j < mp.length := fun e => (hsp.ix_some e).2.2.2
    split at ha <;> split at hb
    · omega
    · cases ha; have := hlt hb; omega
    · cases hb; have := hlt ha; omega
    · exact hsp.inj a b i ha hb
  · show gA (sA R.2.2.1 ⟨s, hs⟩ true) i = _
    rw [gA_sA, ix_put]
    by_cases e : (⟨s, hs⟩ : Fin 17) = i
    · rw [if_pos e, if_pos (by rw [← e])]; rfl
    · rw [if_neg e, if_neg (fun e' => e (Fin.ext (by show s = i.1; omega))), h.isr]
end
section
variable {P : Program} (hP : P = Try.prog)
include hP
theorem make_loop (N d d' : Nat) {F S : Int} {st : St} {L : List Nat} {smap : SM} {mp : MP} {pg : List Pg} {R : Ref} {π : Nat → Int} (h : Rel F S st L smap mp pg R π) (row : List (Option Nat)) : ∀ (f s : Nat), 1 ≤ s → s ≤ 17 → 17 - s < f →
    (∃ (r : Nat) (hr : r < 17), s ≤ r ∧ ix smap r = none ∧ Gm_Make_L2 P N d f (s : Int) st row mp smap = some (((r : Int), 0, ()), st, mp ++ [[]], mpI smap r (some mp.length), ()) ∧ Gr_Make_L2 P N d' f (s : Int) R = some (((r : Int), 0, ()), mkR R r hr, ())) ∨
    (Gm_Make_L2 P N d f (s : Int) st row mp smap = some ((0, 6, ()), st, mp, smap, ()) ∧ Gr_Make_L2 P N d' f (s : Int) R = some ((0, 6, ()), R, ()))
  | 0, s, _, _, h' => by omega
  | f + 1, s, h1, h2, h3 => by
    rw [Gm_Make_L2_eq hP, Gr_Make_L2_eq hP]
    by_cases h4 : s < 17
    · have hin : inb (s : Int) 17 = true := inb_true (by omega) (by omega)
      have e : gA R.2.2.1 ⟨(s : Int).toNat, inb_lt hin⟩ = (ix smap s).isSome := h.isr ⟨s, h4⟩
      rw [dT (p := (s : Int) ≤ 16) (by omega), cond_true, dT (p := (s : Int) < 17) (by omega), cond_true, dif_pos hin, e, wi_nat (by omega)]
      show (_ ∨ _)
      have e2 : ((mlI smap (s : Int)).getD none).isNone = !(ix smap s).isSome := by unfold ix; cases ((mlI smap (s : Int)).getD none) <;> rfl
      rw [e2]
      cases hx : ix smap s with
      | none =>
        left
        refine ⟨s, h4, Nat.le_refl _, hx, rfl, ?_⟩
        simp only [Option.isSome_none, Bool.not_false, cond_true, dif_pos hin]
        rfl
      | some i =>
        simp only [Option.isSome_some, Bool.not_true, cond_false]
        rcases make_loop N d d' h row f (s + 1) (by omega) (by omega) (by omega) with ⟨r, hr, a, b⟩ | b
        · exact .inl ⟨r, hr, by omega, b⟩
        · exact .inr b
    · right
      rw [dF (by omega), cond_false, dF (by omega), cond_false]
      exact ⟨rfl, rfl⟩
end
end sp
end Go.Proofs.Ytmjkechkdfobgaa.pv
namespace Go.Proofs.Ytmjkechkdfobgaa.pv
set_option linter.all false
open Go.RowKit
namespace sp
section
variable {P : Program} (hP : P = Try.prog)
include hP
theorem rspan_eq {N d : Nat} (s f n r : Int) (R : Ref) : Gr_Span P N (d + 3) s f n r R = some (if isS R s = true then (if 0 ≤ f ∧ f ≤ 63 ∧ 1 ≤ n ∧ n ≤ 64 - f ∧ 0 ≤ r ∧ r ≤ 7 then 0 else 1) else 4, ()) := by
  rw [Gr_Span_eq hP, there_eq hP, Option.bind_some]
  cases isS R s with
  | false => rfl
  | true =>
    simp only [Bool.not_true, cond_false, if_true]
    rw [in_eq hP, Option.bind_some]
    by_cases h1 : 0 ≤ f ∧ f ≤ 63
    · rw [dT h1]
      simp only [Bool.not_true, cond_false]
      rw [in_eq hP, Option.bind_some, wi64 (by omega) (by omega)]
      by_cases h2 : 1 ≤ n ∧ n ≤ 64 - f
      · rw [dT h2]
        simp only [Bool.not_true, cond_false]
        rw [in_eq hP, Option.bind_some, Option.bind_some]
        by_cases h3 : 0 ≤ r ∧ r ≤ 7
        · rw [dT h3, if_pos ⟨h1.1, h1.2, h2.1, h2.2, h3.1, h3.2⟩]; rfl
        · rw [dF h3, if_neg (fun h => h3 ⟨h.2.2.2.2.1, h.2.2.2.2.2⟩)]; rfl
      · rw [dF h2, if_neg (fun h => h2 ⟨h.2.2.1, h.2.2.2.1⟩)]; rfl
    · rw [dF h1, if_neg (fun h => h1 ⟨h.1, h.2.1⟩)]; rfl
theorem span_eq {N d : Nat} (s f n r : Int) (st : St) (row : List (Option Nat)) (smap : SM) : Gm_span P N (d + 1) s f n r st row smap = some (if (ix smap s).isSome = true then (if 0 ≤ f ∧ f ≤ 63 ∧ 1 ≤ n ∧ n ≤ 64 - f ∧ 0 ≤ r ∧ r ≤ 7 then 0 else 1) else 4, ()) := by
  rw [Gm_span_eq hP]
  have e : ((mlI smap s).getD none).isNone = !(ix smap s).isSome := by unfold ix; cases ((mlI smap s).getD none) <;> rfl
  rw [e]
  cases (ix smap s).isSome with
  | false => rfl
  | true =>
    simp only [Bool.not_true, cond_false, if_true]
    by_cases h1 : f < 0
    · rw [dT h1, cond_true, Option.bind_some, cond_true, if_neg (by omega)]
    · rw [dF h1, cond_false]
      by_cases h2 : f ≥ 64
      · rw [dT h2, cond_true, Option.bind_some, cond_true, if_neg (by omega)]
      · rw [dF h2, cond_false]
        by_cases h3 : n < 1
        · rw [dT h3, cond_true, Option.bind_some, cond_true, if_neg (by omega)]
        · rw [dF h3, cond_false, wi64 (by omega) (by omega)]
          by_cases h4 : n > 64 - f
          · rw [dT h4, cond_true, Option.bind_some, cond_true, if_neg (by omega)]
          · rw [dF h4, cond_false]
            by_cases h5 : r < 0
            · rw [dT h5, cond_true, Option.bind_some, cond_true, if_neg (by omega)]
            · rw [dF h5, cond_false, Option.bind_some]
              by_cases h6 : r > 7
              · rw [dT h6, cond_true, if_neg (by omega)]
              · rw [dF h6, cond_false, if_pos (by omega)]
theorem room_eq {N d : Nat} (n : Int) {F S : Int} {st : St} {L : List Nat} {smap : SM} {mp : MP} {pg : List Pg} {R : Ref} {π : Nat → Int} (h : Rel F S st L smap mp pg R π) : Gm_room P N (d + 1) n st (L.map some) smap = some (decide (n ≤ F + S - L.length), ()) := by
  have h1 := h.fr; have h2 := h.sr; have h3 := h.len
  rw [Gm_room_eq hP, h.f, h.s, List.length_map, wi64 (x := F + S) (by omega) (by omega), wi64 (by omega) (by omega)]
end
end sp
end Go.Proofs.Ytmjkechkdfobgaa.pv
namespace Go.Proofs.Ytmjkechkdfobgaa.pv
set_option linter.all false
open Go.RowKit
namespace sp
theorem cntA_same {α : Type} {f g : α → Bool} : ∀ {L : List α}, (∀ j ∈ L, f j = g j) → L.countP g = L.countP f
  | [], _ => rfl
  | a :: L, h => by
    rw [List.countP_cons, List.countP_cons, cntA_same fun j hj => h j (List.mem_cons_of_mem _ hj), h a (List.mem_cons_self ..)]
theorem cntA_upd {α : Type} {f g : α → Bool} {i : α} : ∀ {L : List α}, L.Nodup → (∀ j ∈ L, j ≠ i → f j = g j) → i ∈ L → L.countP g + (f i).toNat = L.countP f + (g i).toNat
  | [], _, _, h => by cases h
  | a :: L, hn, h, hi => by
    have hn' := List.nodup_cons.1 hn
    rw [List.countP_cons, List.countP_cons]
    rcases List.mem_cons.1 hi with e | hi'
    · subst e
      rw [cntA_same (f := f) (g := g) fun j hj => h j (List.mem_cons_of_mem _ hj) fun e => hn'.1 (e ▸ hj)]
      cases f i <;> cases g i <;> simp <;> omega
    · have := cntA_upd hn'.2 (fun j hj => h j (List.mem_cons_of_mem _ hj)) hi'
      rw [h a (List.mem_cons_self ..) fun e => hn'.1 (e ▸ hi')]
      omega
theorem sumA_same {α : Type} {f g : α → Nat} : ∀ {L : List α}, (∀ j ∈ L, f j = g j) → (L.map g).sum = (L.map f).sum
  | [], _ => rfl
  | a :: L, h => by
    rw [List.map_cons, List.map_cons, List.sum_cons, List.sum_cons, sumA_same fun j hj => h j (List.mem_cons_of_mem _ hj), h a (List.mem_cons_self ..)]
theorem sumA_upd {α : Type} {f g : α → Nat} {i : α} : ∀ {L : List α}, L.Nodup → (∀ j ∈ L, j ≠ i → f j = g j) → i ∈ L → (L.map g).sum + f i = (L.map f).sum + g i
  | [], _, _, h => by cases h
  | a :: L, hn, h, hi => by
    have hn' := List.nodup_cons.1 hn
    rw [List.map_cons, List.map_cons, List.sum_cons, List.sum_cons]
    rcases List.mem_cons.1 hi with e | hi'
    · subst e
      rw [sumA_same (f := f) (g := g) fun j hj => h j (List.mem_cons_of_mem _ hj) fun e => hn'.1 (e ▸ hj)]
      omega
    · have := sumA_upd hn'.2 (fun j hj => h j (List.mem_cons_of_mem _ hj)) hi'
      rw [h a (List.mem_cons_self ..) fun e => hn'.1 (e ▸ hi')]
      omega
theorem fin_nodup (n : Nat) : (List.finRange n).Nodup := (List.pairwise_lt_finRange n).imp fun h e => by
  rw [e] at h
  exact absurd h (Nat.lt_irrefl _)
/-- the pages with one cell changed -/
def setA (A : Ar 17 (Ar 64 Cell)) (i : Fin 17) (k : Fin 64) (c : Cell) : Ar 17 (Ar 64 Cell) := sA A i (sA (gA A i) k c)
theorem gA_setA (A : Ar 17 (Ar 64 Cell)) (i i' : Fin 17) (k k' : Fin 64) (c : Cell) : gA (gA (setA A i k c) i') k' = if i = i' ∧ k = k' then c else gA (gA A i') k' := by
  unfold setA
  rw [gA_sA]
  by_cases e : i = i'
  · rw [if_pos e, gA_sA]
    by_cases e2 : k = k'
    · rw [if_pos e2, if_pos ⟨e, e2⟩]
    · rw [if_neg e2, if_neg (fun h => e2 h.2), e]
  · rw [if_neg e, if_neg (fun h => e h.1)]
theorem cl_setA (R : Ref) (i i' : Fin 17) (k k' : Fin 64) (c : Cell) : cl (u3 R (setA R.2.2.2.1 i k c)) i' k' = if i = i' ∧ k = k' then c else cl R i' k' := gA_setA ..
theorem cnt_setA {R R' : Ref} {i : Fin 17} {k : Fin 64} {c : Cell} (h : ∀ i' k', cl R' i' k' = if i = i' ∧ k = k' then c else cl R i' k') (x : Int) : cnt R' x + (hit x (cl R i k)).toNat = cnt R x + (hit x c).toNat := by
  have hrow : ∀ j : Fin 17, j ≠ i → rowD x (gA R.2.2.2.1 j) 0 = rowD x (gA R'.2.2.2.1 j) 0 := fun j hj => by
    unfold rowD
    refine cntA_same fun q _ => ?_
    show hit x (cl R' j q) = hit x (cl R j q)
    rw [h, if_neg (fun e => hj e.1.symm)]
  have hi : rowD x (gA R'.2.2.2.1 i) 0 + (hit x (cl R i k)).toNat = rowD x (gA R.2.2.2.1 i) 0 + (hit x c).toNat := by
    unfold rowD
    rw [List.drop_zero]
    have := cntA_upd (f := fun j => hit x (gA (gA R.2.2.2.1 i) j)) (g := fun j => hit x (gA (gA R'.2.2.2.1 i) j)) (i := k) (fin_nodup 64) (fun j _ hj => by
      show hit x (cl R i j) = hit x (cl R' i j)
      rw [h, if_neg (fun e => hj e.2.symm)]) (List.mem_finRange k)
    have e1 : hit x (gA (gA R'.2.2.2.1 i) k) = hit x c := by
      show hit x (cl R' i k) = _
      rw [h, if_pos ⟨rfl, rfl⟩]
    rw [e1] at this
    exact this
  have := sumA_upd (f := fun j => rowD x (gA R.2.2.2.1 j) 0) (g := fun j => rowD x (gA R'.2.2.2.1 j) 0) (i := i) (fin_nodup 17) (fun j _ hj => hrow j hj) (List.mem_finRange i)
  unfold cnt cntD
  rw [List.drop_zero]
  omega
end sp
end Go.Proofs.Ytmjkechkdfobgaa.pv
namespace Go.Proofs.Ytmjkechkdfobgaa.pv
set_option linter.all false
open Go.RowKit
namespace sp
section
variable {F S : Int} {st : St} {L : List Nat} {smap : SM} {mp : MP} {pg : List Pg} {R : Ref} {π : Nat → Int}
theorem cellOf_same {pg pg' : List Pg} {π π' : Nat → Int} {o : Option Ent} (h : ∀ e p, o = some e → e.1 = some p → dat pg' p = dat pg p ∧ π' p = π p) (h2 : ∀ e, o = some e → ∃ p, e.1 = some p) : cellOf pg' π' o = cellOf pg π o := by
  cases o with
  | none => rfl
  | some e =>
    obtain ⟨p, hp⟩ := h2 e rfl
    have := h e p rfl hp
    simp [cellOf, hp, this.1, this.2]
theorem Rel.addp (h : Rel F S st L smap mp pg R π) {s : Fin 17} {k : Fin 64} {i : Nat} (hi : ix smap s.1 = some i) (hn : mlI (ent smap mp s.1) k.1 = none) {r : Int} (hr : 0 ≤ r ∧ r ≤ 7) {D : Ar 16 Int} {pg' : List Pg}
    (h1 : pg'.length = pg.length + 1) (h2 : ∀ j, usr pg' j = if j = pg.length then 1 else usr pg j) (h3 : ∀ j, dat pg' j = if j = pg.length then D else dat pg j) (h4 : (hereC pg' (L ++ [pg.length]) : Int) = min st.1 (hereC pg L + 1)) (hroom : (L.length : Int) + 1 ≤ F + S)
    {R' : Ref} (r1 : R'.1 = R.1) (r2 : R'.2.1 = R.2.1 + 1) (r3 : R'.2.2.1 = R.2.2.1) (r4 : ∀ i' k', cl R' i' k' = if s = i' ∧ k = k' then (true, r, D, R.2.1 + 1, ()) else cl R i' k') :
    Rel F S (u2 st (st.2.2.1 + 1)) (L ++ [pg.length]) smap (lset mp i (mpI (ent smap mp s.1) k.1 (some pg.length, r, ()))) pg' R' (fun p => if p = pg.length then R.2.1 + 1 else π p) := by
  have hsp := h.sp
  have hc := h.clk
  have hlt : ∀ p, p ∈ L → p ≠ pg.length := fun p hp e => by have := h.lt p hp; omega
  have hL : ∀ p, p ∈ L ++ [pg.length] ↔ p ∈ L ∨ p = pg.length := fun p => by simp
  have hcell : cl R s k = zc := by rw [h.cells, hn]; rfl
  have hcnt := cnt_setA (R := R) (R' := R') r4
  have hent : ∀ s' k', mlI (ent smap (lset mp i (mpI (ent smap mp s.1) k.1 (some pg.length, r, ()))) s') k' = if s' = (s.1 : Int) ∧ (k.1 : Int) = k' then some (some pg.length, r, ()) else mlI (ent smap mp s') k' := fun s' k' => by
    rw [hsp.ent_set hi]
    by_cases e : s' = (s.1 : Int)
    · rw [if_pos e, mlI_put]
      by_cases e2 : (k.1 : Int) = k'
      · rw [if_pos e2, if_pos ⟨e, e2⟩]
      · rw [if_neg e2, if_neg (fun h => e2 h.2), e]
    · rw [if_neg e, if_neg (fun h => e h.1)]
  refine ⟨h.f, h.s, h.fr, h.sr, r1.trans h.room, by show 0 ≤ st.2.2.1 + 1; omega, ?_, fun p hp => ?_, ?_, ?_, hsp.set hi ((hsp.ms _).put _ _), fun j => by rw [r3]; exact h.isr j, fun a b => ?_, fun s' k' e he => ?_, fun p hp q hq e => ?_, fun p hp => ?_, by rw [r2]; have := h.pn; omega, fun p hp => ?_, fun s' a b e e' he he' hee => ?_⟩
  · exact List.nodup_append.2 ⟨h.nd, by simp, fun a ha b hb e => by
      rw [List.mem_singleton.1 hb] at e; exact hlt a ha e⟩
  · rcases (hL p).1 hp with hp | hp
    · have := h.lt p hp; omega
    · omega
  · have := h.f; rw [h4]; omega
  · have h5 := h.here; have h6 := h.slot; have h7 := h.f
    rw [h4, List.length_append, List.length_singleton]
    omega
  · rw [r4, hent]
    by_cases e : s = a ∧ k = b
    · obtain ⟨rfl, rfl⟩ := e
      rw [if_pos ⟨rfl, rfl⟩, if_pos ⟨rfl, rfl⟩]
      simp [cellOf, h3]
    · rw [if_neg e, if_neg (fun e' => e ⟨(Fin.ext (by have := e'.1; omega)).symm, Fin.ext (by have := e'.2; omega)⟩), h.cells]
      refine (cellOf_same (fun en p he hp => ?_) (fun en he => ?_)).symm
      · obtain ⟨_, _, ⟨q, hq, hqL⟩, _⟩ := h.ents _ _ _ he
        rw [hp] at hq; cases hq
        exact ⟨by rw [h3, if_neg (hlt p hqL)], by show (if p = pg.length then _ else _) = _; rw [if_neg (hlt p hqL)]⟩
      · obtain ⟨_, _, ⟨q, hq, _⟩, _⟩ := h.ents _ _ _ he
        exact ⟨q, hq⟩
  · rw [hent] at he
    split at he
    · rename_i e2
      cases he
      exact ⟨by omega, by omega, ⟨_, rfl, (hL _).2 (.inr rfl)⟩, hr.1, hr.2⟩
    · obtain ⟨a, b, ⟨p, c, d⟩, e⟩ := h.ents _ _ _ he
      exact ⟨a, b, ⟨p, c, (hL _).2 (.inl d)⟩, e⟩
  · have e : (if p = pg.length then R.2.1 + 1 else π p) = (if q = pg.length then R.2.1 + 1 else π q) := e
    rcases (hL p).1 hp with hp | hp <;> rcases (hL q).1 hq with hq | hq
    · rw [if_neg (hlt p hp), if_neg (hlt q hq)] at e
      exact h.inj p hp q hq e
    · rw [if_neg (hlt p hp), if_pos hq] at e
      have := h.parts p hp; omega
    · rw [if_pos hp, if_neg (hlt q hq)] at e
      have := h.parts q hq; omega
    · omega
  · show (if p = pg.length then R.2.1 + 1 else π p) ≤ _
    rw [r2]
    rcases (hL p).1 hp with hp | hp
    · rw [if_neg (hlt p hp)]; have := h.parts p hp; omega
    · rw [if_pos hp]; omega
  · show usr pg' p = (cnt R' (if p = pg.length then R.2.1 + 1 else π p) : Nat) ∧ _
    rcases (hL p).1 hp with hp | hp
    · have h8 := hcnt (π p)
      have h9 := h.parts p hp
      have h10 := h.us p hp
      rw [hcell, show hit (π p) zc = false from rfl, show hit (π p) ((true, r, D, R.2.1 + 1, ()) : Cell) = false by unfold hit; simp; omega] at h8
      rw [if_neg (hlt p hp), h2, if_neg (hlt p hp)]
      simp only [Bool.toNat_false] at h8
      exact ⟨by omega, h10.2⟩
    · have h8 := hcnt (R.2.1 + 1)
      have h9 : ¬ 0 < cnt R (R.2.1 + 1) := fun h0 => by
        obtain ⟨a, b, hh⟩ := cnt_pos.1 h0
        obtain ⟨_, q, _, _, hq, he⟩ := h.hit_iff.1 hh
        have := h.parts q hq; omega
      rw [hcell, show hit (R.2.1 + 1) zc = false from rfl, show hit (R.2.1 + 1) ((true, r, D, R.2.1 + 1, ()) : Cell) = true by unfold hit; simp] at h8
      rw [if_pos hp, h2, if_pos hp]
      simp only [Bool.toNat_false, Bool.toNat_true] at h8
      exact ⟨by omega, by omega⟩
  · rw [hent] at he he'
    have hold : ∀ {c : Int} {en : Ent}, mlI (ent smap mp s') c = some en → en.1 ≠ some pg.length := fun hx hy => by
      obtain ⟨_, _, ⟨q, hq, hqL⟩, _⟩ := h.ents _ _ _ hx
      rw [hq] at hy; cases hy
      exact hlt _ hqL rfl
    split at he <;> split at he'
    · omega
    · cases he; exact absurd hee.symm (hold he')
    · cases he'; exact absurd hee (hold he)
    · exact h.one s' a b e e' he he' hee
end
end sp
end Go.Proofs.Ytmjkechkdfobgaa.pv
namespace Go.Proofs.Ytmjkechkdfobgaa.pv
set_option linter.all false
open Go.RowKit
namespace sp
theorem cnt_drop {f : Nat → Bool} {p : Nat} : ∀ {L : List Nat}, L.Nodup → p ∈ L → (L.filter fun q => !(q == p)).countP f + (f p).toNat = L.countP f
  | [], _, h => by cases h
  | a :: L, hn, hp => by
    have hn' := List.nodup_cons.1 hn
    by_cases e : a = p
    · subst e
      have e1 : (L.filter fun q => !(q == a)) = L := List.filter_eq_self.2 fun q hq => by
        have : q ≠ a := fun e => hn'.1 (e ▸ hq)
        simp [this]
      rw [List.filter_cons_of_neg (by simp), e1, List.countP_cons]
      cases f a <;> simp
    · have := cnt_drop (f := f) hn'.2 ((List.mem_cons.1 hp).resolve_left fun e' => e e'.symm)
      rw [List.filter_cons_of_pos (by simp [e]), List.countP_cons, List.countP_cons]
      omega
theorem len_drop {p : Nat} {L : List Nat} (hn : L.Nodup) (hp : p ∈ L) : (L.filter fun q => !(q == p)).length + 1 = L.length := by
  have := cnt_drop (f := fun _ => true) hn hp
  simpa [List.countP_true] using this
section
variable {F S : Int} {st : St} {L : List Nat} {smap : SM} {mp : MP} {pg : List Pg} {R : Ref} {π : Nat → Int}
theorem Rel.delp (h : Rel F S st L smap mp pg R π) {s : Fin 17} {k : Fin 64} {i p : Nat} {e0 : Ent} (hi : ix smap s.1 = some i) (he0 : mlI (ent smap mp s.1) k.1 = some e0) (hp0 : e0.1 = some p) {pg' : List Pg}
    (h1 : pg'.length = pg.length) (h2 : ∀ j, usr pg' j = if j = p then usr pg p - 1 else usr pg j) (h3 : ∀ j, dat pg' j = dat pg j) (h4 : ∀ j, hr pg' j = hr pg j)
    {R' : Ref} (r1 : R'.1 = R.1) (r2 : R'.2.1 = R.2.1) (r3 : R'.2.2.1 = R.2.2.1) (r4 : ∀ i' k', cl R' i' k' = if s = i' ∧ k = k' then zc else cl R i' k') :
    Rel F S st (if usr pg p = 1 then L.filter (fun q => !(q == p)) else L) smap (lset mp i (mdI (ent smap mp s.1) k.1)) pg' R' π := by
  have hsp := h.sp
  obtain ⟨_, _, ⟨p', hp', hpL⟩, _⟩ := h.ents _ _ _ he0
  rw [hp0] at hp'
  cases hp'
  have hup := h.us p hpL
  have hold : ∀ q, q ∈ L → hit (π q) (cl R s k) = decide (q = p) := fun q hq => by
    rw [h.cells, he0]
    simp only [cellOf, hit, hp0, Option.getD_some, Bool.true_and]
    by_cases e : q = p
    · subst e; simp
    · rw [decide_eq_false e]
      have : π p ≠ π q := fun e' => e (h.inj p hpL q hq e').symm
      simp [this]
  have hcnt : ∀ q, q ∈ L → cnt R' (π q) + (if q = p then 1 else 0) = cnt R (π q) := fun q hq => by
    have := cnt_setA (R := R) (R' := R') r4 (π q)
    rw [hold q hq, show hit (π q) zc = false from rfl] at this
    by_cases e : q = p
    · rw [if_pos e]; rw [decide_eq_true e] at this; simpa using this
    · rw [if_neg e]; rw [decide_eq_false e] at this; simpa using this
  have hent : ∀ s' k', mlI (ent smap (lset mp i (mdI (ent smap mp s.1) k.1)) s') k' = if s' = (s.1 : Int) ∧ (k.1 : Int) = k' then none else mlI (ent smap mp s') k' := fun s' k' => by
    rw [hsp.ent_set hi]
    by_cases e : s' = (s.1 : Int)
    · rw [if_pos e, mlI_del (hsp.ms _)]
      by_cases e2 : (k.1 : Int) = k'
      · rw [if_pos e2, if_pos ⟨e, e2⟩]
      · rw [if_neg e2, if_neg (fun h => e2 h.2), e]
    · rw [if_neg e, if_neg (fun h => e h.1)]
  have hcells : ∀ (a : Fin 17) (b : Fin 64), cl R' a b = cellOf pg' π (mlI (ent smap (lset mp i (mdI (ent smap mp s.1) k.1)) a.1) b.1) := fun a b => by
    rw [r4, hent]
    by_cases e : s = a ∧ k = b
    · obtain ⟨rfl, rfl⟩ := e
      rw [if_pos ⟨rfl, rfl⟩, if_pos ⟨rfl, rfl⟩]; rfl
    · rw [if_neg e, if_neg (fun e' => e ⟨(Fin.ext (by have := e'.1; omega)).symm, Fin.ext (by have := e'.2; omega)⟩), h.cells]
      refine (cellOf_same (fun en p he hp => ⟨h3 p, rfl⟩) (fun en he => ?_)).symm
      obtain ⟨_, _, ⟨q, hq, _⟩, _⟩ := h.ents _ _ _ he
      exact ⟨q, hq⟩
  have hmem : ∀ q, q ∈ (if usr pg p = 1 then L.filter (fun q => !(q == p)) else L) ↔ q ∈ L ∧ (usr pg p = 1 → q ≠ p) := fun q => by
    by_cases e : usr pg p = 1
    · rw [if_pos e, List.mem_filter]; simp [e]
    · rw [if_neg e]; simp [e]
  have hC : hereC pg' L = hereC pg L := cnt_same fun j _ => (h4 j).symm
  have hdc := cnt_drop (f := hr pg) h.nd hpL
  have hC' : hereC pg' (L.filter fun q => !(q == p)) = (L.filter fun q => !(q == p)).countP (hr pg) := cnt_same fun j _ => (h4 j).symm
  have hdl := len_drop h.nd hpL
  have hb : (hr pg p).toNat ≤ 1 := Bool.toNat_le _
  refine ⟨h.f, h.s, h.fr, h.sr, r1.trans h.room, h.clk, ?_, fun q hq => by rw [h1]; exact h.lt q ((hmem q).1 hq).1, ?_, ?_, hsp.set hi ((hsp.ms _).del _), fun j => by rw [r3]; exact h.isr j, hcells, fun s' k' e he => ?_,
    fun q hq q' hq' e => h.inj q ((hmem q).1 hq).1 q' ((hmem q').1 hq').1 e, fun q hq => by rw [r2]; exact h.parts q ((hmem q).1 hq).1, by rw [r2]; exact h.pn, fun q hq => ?_, fun s' a b e e' he he' hee => ?_⟩
  · split
    · exact h.nd.sublist List.filter_sublist
    · exact h.nd
  · have h5 := h.here
    split
    · rw [hC']; unfold hereC at h5; omega
    · rw [hC]; exact h5
  · have h5 := h.slot
    split
    · rw [hC']; unfold hereC at h5; omega
    · rw [hC]; exact h5
  · rw [hent] at he
    split at he
    · cases he
    · rename_i hne
      obtain ⟨a, b, ⟨q, c, dq⟩, e2⟩ := h.ents _ _ _ he
      refine ⟨a, b, ⟨q, c, (hmem q).2 ⟨dq, fun hu hqp => ?_⟩⟩, e2⟩
      have hz := hcnt p hpL
      rw [if_pos rfl] at hz
      have h0 : ¬ 0 < cnt R' (π p) := by omega
      apply h0
      cases hix : ix smap s' with
      | none =>
        have : ent smap mp s' = [] := by unfold ent; rw [hix]
        rw [this, mlI_nil] at he; cases he
      | some j =>
        have hj := hsp.ix_some hix
        refine cnt_pos.2 ⟨⟨s'.toNat, by omega⟩, ⟨k'.toNat, by omega⟩, ?_⟩
        rw [hcells, hent]
        show hit (π p) (cellOf pg' π (if ((s'.toNat : Nat) : Int) = (s.1 : Int) ∧ (k.1 : Int) = ((k'.toNat : Nat) : Int) then none else mlI (ent smap mp ((s'.toNat : Nat) : Int)) ((k'.toNat : Nat) : Int))) = true
        rw [Int.toNat_of_nonneg (by omega), Int.toNat_of_nonneg a, if_neg hne, he]
        simp [cellOf, hit, c, hqp]
  · have h5 := (hmem q).1 hq
    have h6 := hcnt q h5.1
    have h7 := h.us q h5.1
    rw [h2]
    by_cases e : q = p
    · rw [if_pos e] at h6 ⊢
      have := h5.2
      subst e
      have hne : usr pg q ≠ 1 := fun hu => h5.2 hu rfl
      exact ⟨by omega, by omega⟩
    · rw [if_neg e] at h6 ⊢
      exact ⟨by omega, h7.2⟩
  · rw [hent] at he he'
    split at he
    · cases he
    · split at he'
      · cases he'
      · exact h.one s' a b e e' he he' hee
end
end sp
end Go.Proofs.Ytmjkechkdfobgaa.pv
namespace Go.Proofs.Ytmjkechkdfobgaa.pv
set_option linter.all false
open Go.RowKit
namespace sp
section
variable {F S : Int} {st : St} {L : List Nat} {smap : SM} {mp : MP} {pg : List Pg} {R : Ref} {π : Nat → Int}
/-- flags and times alone -/
theorem Rel.alk (h : Rel F S st L smap mp pg R π) {st' : St} {pg' : List Pg} (h1 : st'.1 = st.1) (h2 : st'.2.1 = st.2.1) (h3 : 0 ≤ st'.2.2.1) (A : Alk pg pg') (h4 : (hereC pg' L : Int) ≤ F) (h5 : (L.length : Int) - hereC pg' L ≤ S) : Rel F S st' L smap mp pg' R π :=
  ⟨h1.trans h.f, h2.trans h.s, h.fr, h.sr, h.room, h3, h.nd, fun p hp => by rw [A.len]; exact h.lt p hp, h4, h5, h.sp, h.isr, fun i k => by
    rw [h.cells]
    cases e : mlI (ent smap mp i.1) k.1 with
    | none => rfl
    | some en => simp [cellOf, A.dat], h.ents, h.inj, h.parts, h.pn, fun p hp => by rw [A.usr]; exact h.us p hp, h.one⟩
variable {P : Program} (hP : P = Try.prog)
include hP
theorem Rel.ask (h : Rel F S st L smap mp pg R π) {N d : Nat} (hN : 1001 ≤ N) {p : Nat} (hp : p ∈ L) (hc : st.2.2.1 ≤ 1000000) :
    ∃ pg', Gm_ask P N (d + 2) (some p) st (L.map some) smap pg = some ((), u2 st (st.2.2.1 + 1), pg', ()) ∧ Alk pg pg' ∧ hereC pg L ≤ hereC pg' L ∧ Rel F S (u2 st (st.2.2.1 + 1)) L smap mp pg' R π := by
  have h1 := h.f; have h2 := h.fr; have h3 := h.here; have h4 := h.slot; have h5 := h.clk; have h6 := h.len
  obtain ⟨pg', e1, A, e2, e3⟩ := ask_eq hP hN (d := d) st smap pg L p h.nd h.lt (by omega) hp ⟨h5, hc⟩ (by omega) (by omega)
  have e4 : (hereC pg L : Int) ≤ hereC pg' L ∧ (hereC pg' L : Int) ≤ F := by
    rw [e3]
    split
    · omega
    · omega
  exact ⟨pg', e1, A, by omega, h.alk rfl rfl (by show 0 ≤ st.2.2.1 + 1; omega) A e4.2 (by omega)⟩
theorem Rel.add (h : Rel F S st L smap mp pg R π) {N d : Nat} (hN : 1001 ≤ N) (D : Ar 16 Int) (hc : st.2.2.1 ≤ 1000000) :
    ∃ pg', Gm_add P N (d + 3) D st (L.map some) smap pg = some (some pg.length, u2 st (st.2.2.1 + 1), pg', (L ++ [pg.length]).map some, ()) ∧ pg'.length = pg.length + 1 ∧
      (∀ j, usr pg' j = if j = pg.length then 1 else usr pg j) ∧ (∀ j, dat pg' j = if j = pg.length then D else dat pg j) ∧ (hereC pg' (L ++ [pg.length]) : Int) = min st.1 (hereC pg L + 1) := by
  have h1 := h.f; have h2 := h.fr; have h3 := h.here; have h6 := h.len
  obtain ⟨pg', e1, e2, e3, e4, _, e5⟩ := add_eq hP hN (d := d) st smap pg L D h.nd h.lt (by omega) ⟨h.clk, hc⟩ (by omega) (by omega)
  exact ⟨pg', e1, e2, e3, e4, e5⟩
theorem Rel.let' (h : Rel F S st L smap mp pg R π) {N d : Nat} (hN : 1001 ≤ N) {s k : Int} {e : Ent} (he : mlI (ent smap mp s) k = some e) :
    ∃ p pg', e.1 = some p ∧ p ∈ L ∧ Gm_let P N (d + 4) e st (L.map some) smap pg = some ((), st, pg', (if usr pg p = 1 then L.filter (fun q => !(q == p)) else L).map some, ()) ∧ pg'.length = pg.length ∧
      (∀ j, usr pg' j = if j = p then usr pg p - 1 else usr pg j) ∧ (∀ j, dat pg' j = dat pg j) ∧ (∀ j, hr pg' j = hr pg j) := by
  obtain ⟨_, _, ⟨p, hp, hpL⟩, _⟩ := h.ents _ _ _ he
  obtain ⟨e1, e2, ⟨⟩⟩ := e
  have hp : e1 = some p := hp
  subst hp
  have h6 := h.len
  have h7 := h.us p hpL
  have h8 : cnt R (π p) ≤ 17 * 64 := by
    unfold cnt cntD
    have : ∀ l : List (Fin 17), (l.map fun i => rowD (π p) (gA R.2.2.2.1 i) 0).sum ≤ l.length * 64 := by
      intro l
      induction l with
      | nil => simp
      | cons a l ih =>
        have := rowD_le (π p) (gA R.2.2.2.1 a) 0
        rw [List.map_cons, List.sum_cons, List.length_cons]
        omega
    have := this ((List.finRange 17).drop 0)
    simpa using this
  obtain ⟨pg', f1, f2, f3, f4, f5⟩ := let_eq hP hN (d := d) st smap pg L p e2 (by omega) (h.lt p hpL) ⟨h7.2, by omega⟩
  exact ⟨p, pg', rfl, hpL, f1, f2, f3, f4, f5⟩
end
end sp
end Go.Proofs.Ytmjkechkdfobgaa.pv
namespace Go.Proofs.Ytmjkechkdfobgaa.pv
set_option linter.all false
open Go.RowKit
namespace sp
section
variable {F S : Int} {st : St} {smap : SM} {π : Nat → Int}
theorem Rel.congR {L : List Nat} {mp : MP} {pg : List Pg} {R R' : Ref} (h : Rel F S st L smap mp pg R π) (r1 : R'.1 = R.1) (r2 : R'.2.1 = R.2.1) (r3 : R'.2.2.1 = R.2.2.1) (r4 : ∀ i k, cl R' i k = cl R i k) : Rel F S st L smap mp pg R' π :=
  ⟨h.f, h.s, h.fr, h.sr, r1.trans h.room, h.clk, h.nd, h.lt, h.here, h.slot, h.sp, fun j => by rw [r3]; exact h.isr j, fun i k => by rw [r4]; exact h.cells i k, h.ents, h.inj, fun p hp => by rw [r2]; exact h.parts p hp, by rw [r2]; exact h.pn, fun p hp => by rw [cnt_congr r4]; exact h.us p hp, h.one⟩
variable {P : Program} (hP : P = Try.prog)
include hP
theorem unmap_loop (N d d' : Nat) (hN : 1001 ≤ N) {i : Nat} {s first n : Int} (hi : ix smap s = some i) (h0 : 0 ≤ first) (h64 : first + n ≤ 64) (h1 : 1 ≤ n) : ∀ (m f g t : Nat) (L : List Nat) (mp : MP) (pg : List Pg) (R : Ref), Rel F S st L smap mp pg R π → (t : Int) + m = n → m < f → m < g →
    ∃ (L' : List Nat) (mp' : MP) (pg' : List Pg) (R' : Ref), Gm_Unmap_L5 P N (d + 4) f s first n (first + t) st smap pg mp (L.map some) = some (0, st, pg', mp', L'.map some, ()) ∧ Gr_Unmap_L5 P N d' g s first n (t : Int) R = some (0, R', ()) ∧
      Rel F S st L' smap mp' pg' R' π ∧ L'.length ≤ L.length ∧ (L'.length = L.length → hereC pg' L' = hereC pg L) ∧ R'.2.1 = R.2.1
  | m, 0, _, _, _, _, _, _, _, _, h, _ => by omega
  | m, _, 0, _, _, _, _, _, _, _, _, h => by omega
  | 0, f + 1, g + 1, t, L, mp, pg, R, hR, ht, _, _ => by
    rw [Gm_Unmap_L5_eq hP, Gr_Unmap_L5_eq hP, wi64 (x := first + n) (by omega) (by omega), dF (by omega), cond_false, dF (by omega), cond_false]
    exact ⟨L, mp, pg, R, rfl, rfl, hR, Nat.le_refl _, fun _ => rfl, rfl⟩
  | m + 1, f + 1, g + 1, t, L, mp, pg, R, hR, ht, hf, hg => by
    have hsp := hR.sp
    have hix := hsp.ix_some hi
    have hin : inb s 17 = true := inb_true (by omega) (by omega)
    have hk : inb (first + (t : Int)) 64 = true := inb_true (by omega) (by omega)
    have hmg : (mlI smap s).getD none = some i := hi
    rw [Gm_Unmap_L5_eq hP, Gr_Unmap_L5_eq hP, wi64 (x := first + n) (by omega) (by omega), dT (p := first + (t : Int) < first + n) (by omega), cond_true, dT (p := (t : Int) < n) (by omega), cond_true, dif_pos hin, wi64 (x := first + (t : Int)) (by omega) (by omega), dif_pos hk, hmg, oc_some, ent_at hi hix.2.2.2, Option.bind_some, wi_nat (by omega), Gm_Unmap_J8_eq hP]
    have hsE : ((⟨s.toNat, inb_lt hin⟩ : Fin 17).1 : Int) = s := Int.toNat_of_nonneg (by omega)
    have hkE : ((⟨(first + (t : Int)).toNat, inb_lt hk⟩ : Fin 64).1 : Int) = first + t := Int.toNat_of_nonneg (by omega)
    generalize hR1 : u3 R (sA R.2.2.2.1 ⟨s.toNat, inb_lt hin⟩ (sA (gA R.2.2.2.1 ⟨s.toNat, inb_lt hin⟩) ⟨(first + (t : Int)).toNat, inb_lt hk⟩ (false, 0, nA 16 0, 0, ()))) = R1
    have r4 : ∀ i' k', cl R1 i' k' = if (⟨s.toNat, inb_lt hin⟩ : Fin 17) = i' ∧ (⟨(first + (t : Int)).toNat, inb_lt hk⟩ : Fin 64) = k' then zc else cl R i' k' := fun i' k' => by
      rw [← hR1]; exact cl_setA R _ i' _ k' zc
    have r1 : R1.1 = R.1 := by rw [← hR1]; rfl
    have r2 : R1.2.1 = R.2.1 := by rw [← hR1]; rfl
    have r3 : R1.2.2.1 = R.2.2.1 := by rw [← hR1]; rfl
    have hw : wi .i64 (first + (t : Int) + 1) = first + ((t + 1 : Nat) : Int) := by rw [wi64 (by omega) (by omega)]; omega
    cases he : mlI (ent smap mp s) (first + (t : Int)) with
    | none =>
      simp only [Option.isSome_none, cond_false]
      rw [hw]
      have hz : cl R ⟨s.toNat, inb_lt hin⟩ ⟨(first + (t : Int)).toNat, inb_lt hk⟩ = zc := by
        rw [hR.cells, hsE, hkE, he]; rfl
      obtain ⟨L', mp', pg2, R', g1, g2, g3, g4, g5, g6⟩ := unmap_loop N d d' hN hi h0 h64 h1 m f g (t + 1) L mp pg R1 (hR.congR r1 r2 r3 fun a b => by
        rw [r4]
        split
        · rename_i e; rw [← e.1, ← e.2, hz]
        · rfl) (by omega) (by omega) (by omega)
      exact ⟨L', mp', pg2, R', g1, g2, g3, g4, g5, g6.trans r2⟩
    | some e =>
      obtain ⟨p, pg', hp, hpL, f1, f2, f3, f4, f5⟩ := hR.let' hP hN (d := d) he
      simp only [Option.isSome_some, cond_true, Option.getD_some]
      rw [f1, Option.bind_some, hmg, oc_some, ent_at hi hix.2.2.2, Option.bind_some, hw]
      have hnew := hR.delp (s := ⟨s.toNat, inb_lt hin⟩) (k := ⟨(first + (t : Int)).toNat, inb_lt hk⟩) (by rw [hsE]; exact hi) (by rw [hsE, hkE]; exact he) hp f2 f3 f4 f5 r1 r2 r3 r4
      rw [hsE, hkE] at hnew
      obtain ⟨L', mp', pg2, R', g1, g2, g3, g4, g5, g6⟩ := unmap_loop N d d' hN hi h0 h64 h1 m f g (t + 1) _ _ _ _ hnew (by omega) (by omega) (by omega)
      have hlen : (if usr pg p = 1 then L.filter (fun q => !(q == p)) else L).length ≤ L.length := by
        split
        · exact List.length_filter_le ..
        · exact Nat.le_refl _
      refine ⟨L', mp', pg2, R', g1, g2, g3, by omega, fun e2 => ?_, g6.trans r2⟩
      have h6 := g5 (by omega)
      rw [h6]
      by_cases hu : usr pg p = 1
      · rw [if_pos hu] at g4
        have := len_drop hR.nd hpL
        omega
      · rw [if_neg hu]
        exact cnt_same fun j _ => (f5 j).symm
end
end sp
end Go.Proofs.Ytmjkechkdfobgaa.pv
namespace Go.Proofs.Ytmjkechkdfobgaa.pv
set_option linter.all false
open Go.RowKit
namespace sp
/-- how many frames come free -/
def Fr (F : Int) (pg : List Pg) (L : List Nat) (pg' : List Pg) (L' : List Nat) : Prop := L.length ≤ L'.length → F - hereC pg' L' ≤ max 1 (F - hereC pg L - ((L'.length : Int) - L.length))
theorem Fr.refl (F : Int) (pg : List Pg) (L : List Nat) : Fr F pg L pg L := fun _ => by omega
section
variable {F S : Int} {st : St} {smap : SM} {π : Nat → Int} {L : List Nat} {mp : MP} {pg : List Pg} {R : Ref}
variable {P : Program} (hP : P = Try.prog)
include hP
theorem unmap_eq {N d d' : Nat} (hN : 1001 ≤ N) (h : Rel F S st L smap mp pg R π) (s first n : Int) :
    ∃ (e : Int) (L' : List Nat) (mp' : MP) (pg' : List Pg) (R' : Ref), Gm_Unmap P N (d + 5) s first n st (L.map some) smap pg mp = some (e, st, pg', mp', L'.map some, ()) ∧ Gr_Unmap P N (d' + 4) s first n R = some (e, R', ()) ∧ Rel F S st L' smap mp' pg' R' π ∧ Fr F pg L pg' L' ∧ R'.2.1 = R.2.1 := by
  rw [Gm_Unmap_eq hP, Gr_Unmap_eq hP, rspan_eq hP, h.isS, span_eq hP, Option.bind_some, Option.bind_some]
  cases hx : ix smap s with
  | none => exact ⟨4, L, mp, pg, R, rfl, rfl, h, Fr.refl _ _ _, rfl⟩
  | some i =>
    simp only [Option.isSome_some, if_true]
    by_cases h1 : 0 ≤ first ∧ first ≤ 63 ∧ 1 ≤ n ∧ n ≤ 64 - first ∧ (0 : Int) ≤ 0 ∧ (0 : Int) ≤ 7
    · rw [if_pos h1, neF rfl, cond_false, cond_false]
      obtain ⟨L', mp', pg', R', e1, e2, e3, e4, e5, e6⟩ := unmap_loop hP N d (d' + 3) hN hx h1.1 (by omega) h1.2.2.1 n.toNat N N 0 L mp pg R h (by omega) (by omega) (by omega)
      rw [show first + ((0 : Nat) : Int) = first by omega] at e1
      refine ⟨0, L', mp', pg', R', e1, e2, e3, fun hl => ?_, e6⟩
      rw [e5 (by omega)]
      omega
    · rw [if_neg h1, neT (by omega), cond_true, cond_true]
      exact ⟨1, L, mp, pg, R, rfl, rfl, h, Fr.refl _ _ _, rfl⟩
end
end sp
end Go.Proofs.Ytmjkechkdfobgaa.pv
