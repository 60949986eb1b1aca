/- ProcPlays: a table of processes as a list, and the lookups. -/
import Derived.Test.YtjjjaakefnnbpaaSoProc
import Derived.Test.YtjjjaakefnnbpaaSpProc
namespace Go.Proofs.Ytjjjaakefnnbpaa.pv
set_option linter.all false
open Go.RowKit help
namespace pp

abbrev Pr := S_ringref5_Proc
abbrev Tb := S_proc_Table
def en (t : Tb) (k : Nat) : S_proc_entry := if h : k < 17 then t.fl ⟨k, h⟩ else ⟨0, 0, 0, 0⟩
def mkp (t : Tb) (k : Nat) : Pr := ⟨(k : Int), (en t k).fparent, (en t k).fgroup, (en t k).fstatus, decide ((en t k).fstate = 2)⟩
def up (t : Tb) (k : Nat) : Bool := !decide ((en t k).fstate = 0)
def part (t : Tb) (a m : Nat) : List Pr := ((List.range' a m).filter (up t)).map (mkp t)
def procs (t : Tb) : List Pr := part t 1 16
structure Inv (t : Tb) : Prop where
  z : (en t 0).fstate = 0
  st : ∀ k, (en t k).fstate = 0 ∨ (en t k).fstate = 1 ∨ (en t k).fstate = 2
  one : (en t 1).fstate = 1
theorem getT {t : Tb} {k : Nat} (h : k < 17) : getA t.fl (k : Int) = some (en t k) := by
  unfold getA en
  rw [dif_pos ⟨by omega, by omega⟩, dif_pos h]
  rfl
def upd (t : Tb) (p : Nat) (e : S_proc_entry) : Tb := ⟨setA t.fl (p : Int) e⟩
theorem en_upd (t : Tb) (p : Nat) (e : S_proc_entry) (hp : p < 17) (k : Nat) : en (upd t p e) k = if k = p then e else en t k := by
  unfold en upd setA
  simp only [Int.toNat_natCast]
  by_cases h : k < 17
  · rw [dif_pos h, dif_pos h]
  · rw [dif_neg h, dif_neg h, if_neg (by omega)]
theorem part_mem {t : Tb} {a m : Nat} {x : Pr} : x ∈ part t a m ↔ ∃ k, a ≤ k ∧ k < a + m ∧ up t k = true ∧ x = mkp t k := by
  unfold part
  rw [List.mem_map]
  constructor
  · rintro ⟨k, hk, rfl⟩
    rw [List.mem_filter, List.mem_range'_1] at hk
    exact ⟨k, hk.1.1, hk.1.2, hk.2, rfl⟩
  · rintro ⟨k, h1, h2, h3, rfl⟩
    exact ⟨k, List.mem_filter.2 ⟨List.mem_range'_1.2 ⟨h1, h2⟩, h3⟩, rfl⟩
theorem part_len (t : Tb) (a m : Nat) : (part t a m).length ≤ m := by
  unfold part
  rw [List.length_map]
  have := List.length_filter_le (up t) (List.range' a m)
  simpa using this
theorem procs_len (t : Tb) : (procs t).length ≤ 16 := part_len t 1 16
theorem split_at (t : Tb) (p : Nat) (h1 : 1 ≤ p) (h2 : p ≤ 16) : procs t = part t 1 (p - 1) ++ ((if up t p = true then [mkp t p] else []) ++ part t (p + 1) (16 - p)) := by
  have e : List.range' 1 16 = List.range' 1 (p - 1) ++ (p :: List.range' (p + 1) (16 - p)) := by
    have a : List.range' 1 (p - 1) ++ List.range' p (17 - p) = List.range' 1 16 := by
      have := List.range'_append_1 (s := 1) (m := p - 1) (n := 17 - p)
      rw [show 1 + (p - 1) = p by omega, show p - 1 + (17 - p) = 16 by omega] at this
      exact this
    have b : List.range' p (17 - p) = p :: List.range' (p + 1) (16 - p) := by
      rw [show 17 - p = (16 - p) + 1 by omega, List.range'_succ]
    rw [← a, b]
  unfold procs part
  rw [e, List.filter_append, List.map_append, List.filter_cons]
  by_cases h : up t p = true
  · rw [if_pos h, if_pos h]; rfl
  · rw [if_neg h, if_neg h]; rfl
theorem split_up (t : Tb) (p : Nat) (h1 : 1 ≤ p) (h2 : p ≤ 16) (h : up t p = true) : procs t = part t 1 (p - 1) ++ (mkp t p :: part t (p + 1) (16 - p)) := by
  rw [split_at t p h1 h2, if_pos h]; rfl
theorem split_down (t : Tb) (p : Nat) (h1 : 1 ≤ p) (h2 : p ≤ 16) (h : ¬ up t p = true) : procs t = part t 1 (p - 1) ++ part t (p + 1) (16 - p) := by
  rw [split_at t p h1 h2, if_neg h]; rfl
theorem part_congr {t t' : Tb} {a m : Nat} (h : ∀ k, a ≤ k → k < a + m → en t k = en t' k) : part t a m = part t' a m := by
  unfold part
  have e : (List.range' a m).filter (up t) = (List.range' a m).filter (up t') := List.filter_congr (fun k hk => by
    rw [List.mem_range'_1] at hk
    unfold up
    rw [h k hk.1 hk.2])
  rw [e]
  refine List.map_congr_left (fun k hk => ?_)
  have := (List.mem_filter.1 hk).1
  rw [List.mem_range'_1] at this
  unfold mkp
  rw [h k this.1 this.2]
theorem upd_parts (t : Tb) (p : Nat) (e : S_proc_entry) (h2 : p ≤ 16) : part (upd t p e) 1 (p - 1) = part t 1 (p - 1) ∧ part (upd t p e) (p + 1) (16 - p) = part t (p + 1) (16 - p) :=
  ⟨part_congr (fun k _ hk => by rw [en_upd t p e (by omega), if_neg (by omega)]), part_congr (fun k hk _ => by rw [en_upd t p e (by omega), if_neg (by omega)])⟩
theorem mkp_upd (t : Tb) (p : Nat) (e : S_proc_entry) (h2 : p ≤ 16) : mkp (upd t p e) p = ⟨(p : Int), e.fparent, e.fgroup, e.fstatus, decide (e.fstate = 2)⟩ := by
  unfold mkp
  rw [en_upd t p e (by omega), if_pos rfl]
theorem up_upd (t : Tb) (p : Nat) (e : S_proc_entry) (h2 : p ≤ 16) : up (upd t p e) p = !decide (e.fstate = 0) := by
  unfold up
  rw [en_upd t p e (by omega), if_pos rfl]
/-- one that stays is changed -/
theorem procs_set (t : Tb) (p : Nat) (e : S_proc_entry) (h1 : 1 ≤ p) (h2 : p ≤ 16) (h : up t p = true) (he : ¬ e.fstate = 0) :
    procs (upd t p e) = (procs t).set (part t 1 (p - 1)).length ⟨(p : Int), e.fparent, e.fgroup, e.fstatus, decide (e.fstate = 2)⟩ := by
  obtain ⟨q1, q2⟩ := upd_parts t p e h2
  rw [split_up (upd t p e) p h1 h2 (by rw [up_upd t p e h2]; simp [he]), split_up t p h1 h2 h, q1, q2, mkp_upd t p e h2]
  simp
/-- .. one goes -/
theorem procs_del (t : Tb) (p : Nat) (e : S_proc_entry) (h1 : 1 ≤ p) (h2 : p ≤ 16) (he : e.fstate = 0) :
    procs (upd t p e) = part t 1 (p - 1) ++ part t (p + 1) (16 - p) := by
  obtain ⟨q1, q2⟩ := upd_parts t p e h2
  rw [split_down (upd t p e) p h1 h2 (by rw [up_upd t p e h2]; simp [he]), q1, q2]
theorem findI_app {α : Type} (q : α → Bool) (A B : List α) (x : α) (hA : ∀ y ∈ A, q y = false) (hx : q x = true) : findI q (A ++ x :: B) = (A.length : Int) := by
  rcases findI_cases q (A ++ x :: B) with ⟨_, h2⟩ | ⟨j, y, h1, h2, h3, h4⟩
  · have := h2 x (by simp)
    rw [hx] at this; cases this
  · have hj : j = A.length := by
      rcases Nat.lt_trichotomy j A.length with h | h | h
      · rw [List.getElem?_append_left h] at h2
        have := hA y (List.mem_of_getElem? h2)
        rw [h3] at this; cases this
      · exact h
      · have := h4 A.length x h (by simp)
        rw [hx] at this; cases this
    rw [h1, hj]
theorem find_no (n : Nat) (t : Tb) (p : Int) (hn : 20 < n) (h : ∀ k : Nat, 1 ≤ k → k ≤ 16 → up t k = true → (k : Int) ≠ p) : G_ringref5_Procs_Find n (procs t) p = some (-1) := by
  have hl := procs_len t
  unfold G_ringref5_Procs_Find
  rw [G_slices_IndexFunc_ringref5_Procs_ringref5_Proc_sp (f := fun y0 => G_ringref5_Procs_Find_1 n y0 p) (fun x : Pr => x.fId == p) (fun y _ => rfl) (by omega) (by omega), Option.bind_some]
  rcases findI_cases (fun x : Pr => x.fId == p) (procs t) with ⟨h1, _⟩ | ⟨j, y, h1, h2, h3, _⟩
  · rw [h1]
  · obtain ⟨k, k1, k2, k3, rfl⟩ := part_mem.1 (List.mem_of_getElem? h2)
    exact absurd (by simpa [mkp] using h3) (h k k1 (by omega) k3)
theorem find_yes (n : Nat) (t : Tb) (p : Nat) (hn : 20 < n) (h1 : 1 ≤ p) (h2 : p ≤ 16) (h : up t p = true) :
    G_ringref5_Procs_Find n (procs t) (p : Int) = some (((part t 1 (p - 1)).length : Nat) : Int) ∧ (procs t)[(part t 1 (p - 1)).length]? = some (mkp t p) ∧ (part t 1 (p - 1)).length < (procs t).length := by
  have hl := procs_len t
  have hs := split_up t p h1 h2 h
  refine ⟨?_, by rw [hs]; simp, by rw [hs]; simp⟩
  unfold G_ringref5_Procs_Find
  rw [G_slices_IndexFunc_ringref5_Procs_ringref5_Proc_sp (f := fun y0 => G_ringref5_Procs_Find_1 n y0 (p : Int)) (fun x : Pr => x.fId == (p : Int)) (fun y _ => rfl) (by omega) (by omega), Option.bind_some]
  rw [hs, findI_app (fun x : Pr => x.fId == (p : Int)) _ _ (mkp t p) (fun y hy => ?_) (by simp [mkp])]
  obtain ⟨k, k1, k2, _, rfl⟩ := part_mem.1 hy
  simp only [mkp, beq_eq_false_iff_ne]
  omega
def err (t : Tb) (p : Int) : Int := if p < 1 ∨ p > 16 then 1 else if (en t p.toNat).fstate = 1 then 0 else 4
theorem err_list (n : Nat) (t : Tb) (p : Int) (hi : Inv t) (hn : 20 < n) : G_ringref5_Procs_Err n (procs t) p = some (err t p) := by
  unfold G_ringref5_Procs_Err err
  by_cases h1 : p < 1
  · rw [if_pos h1, if_pos (.inl h1)]
  by_cases h2 : p > 16
  · rw [if_neg h1, if_pos h2, if_pos (.inr h2)]
  rw [if_neg h1, if_neg h2, if_neg (show ¬ (p < 1 ∨ p > 16) by omega)]
  obtain ⟨k, rfl⟩ := Int.eq_ofNat_of_zero_le (show 0 ≤ p by omega)
  rw [Int.toNat_natCast]
  by_cases hu : up t k = true
  · obtain ⟨f1, f2, _⟩ := find_yes n t k hn (by omega) (by omega) hu
    rw [f1, Option.bind_some, if_neg (by omega), getI_nat, f2, Option.bind_some]
    have hne : ¬ (en t k).fstate = 0 := by simpa [up] using hu
    rcases hi.st k with q | q | q
    · exact absurd q hne
    · have e : (mkp t k).fEnded = false := by simp [mkp, q]
      rw [if_pos q, e]; rfl
    · have e : (mkp t k).fEnded = true := by simp [mkp, q]
      rw [if_neg (show ¬ (en t k).fstate = 1 by omega), e]; rfl
  · have hz : (en t k).fstate = 0 := by simpa [up] using hu
    rw [find_no n t (k : Int) hn (fun j _ _ hj e => by
      have : j = k := by omega
      subst this; exact hu hj), Option.bind_some, if_pos (by omega), if_neg (show ¬ (en t k).fstate = 1 by omega)]
theorem number_any (n : Nat) (p : Int) : G_proc_number n p = some (decide (1 ≤ p ∧ p ≤ 16)) := by
  unfold G_proc_number
  by_cases h : p ≥ 1
  · rw [if_pos h]
    have : (1 ≤ p ∧ p ≤ 16) ↔ p ≤ 16 := by omega
    simp only [this]
  · rw [if_neg h, decide_eq_false (by omega)]
theorem err_tab (n : Nat) (t : Tb) (p : Int) : G_proc_Table_living_h n t p = some (err t p, t) := by
  unfold G_proc_Table_living_h err
  rw [number_any, Option.bind_some]
  by_cases h : 1 ≤ p ∧ p ≤ 16
  · obtain ⟨k, rfl⟩ := Int.eq_ofNat_of_zero_le (show 0 ≤ p by omega)
    rw [if_pos (by simp; omega), if_pos ⟨by omega, by omega⟩, getT (by omega), Option.bind_some, if_neg (show ¬ ((k : Int) < 1 ∨ (k : Int) > 16) by omega), Int.toNat_natCast]
    by_cases q : (en t k).fstate = 1
    · rw [if_pos q, if_pos q]
    · rw [if_neg q, if_neg q]
  · rw [if_neg (by simpa using h), if_pos (by omega)]
theorem err0 {t : Tb} {p : Int} (h : err t p = 0) : ∃ k : Nat, p = (k : Int) ∧ 1 ≤ k ∧ k ≤ 16 ∧ (en t k).fstate = 1 := by
  unfold err at h
  by_cases h1 : p < 1 ∨ p > 16
  · rw [if_pos h1] at h; omega
  · rw [if_neg h1] at h
    by_cases h2 : (en t p.toNat).fstate = 1
    · exact ⟨p.toNat, by omega, by omega, by omega, h2⟩
    · rw [if_neg h2] at h; omega
theorem up1 {t : Tb} {k : Nat} (h : (en t k).fstate = 1) : up t k = true := by simp [up, h]
end pp
end Go.Proofs.Ytjjjaakefnnbpaa.pv
