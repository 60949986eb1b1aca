/- ProcPlays: the law. -/
import Derived.Test.YtjjjaakefnnbpaaLProc3
namespace Go.Proofs.Ytjjjaakefnnbpaa.pv
set_option linter.all false
open Go.RowKit help
namespace pp

theorem equal_same (n : Nat) (a b : List Int) (h : a = b) (hl : a.length ≤ 100) (hn : 110 < n) : G_slices_Equal_int_int n a b = some true := by
  obtain ⟨r, h1, h2⟩ := G_slices_Equal_int_int_sp (n := n) a b (by omega) (by omega)
  rw [h1, h2.2 h]
theorem ids_len (q : Nat → Bool) : (ids q).length ≤ 100 := by
  unfold ids
  rw [List.length_map]
  have := List.length_filter_le q (List.range' 0 17)
  simp at this
  omega
theorem l9_loop (n : Nat) (r : Int × Int × Tb) (d : S_ringlaw5_Deed) (L : List Pr) (hl : L.length ≤ 100) : ∀ (k i : Nat) (acc : List Int), L.length - i < k → i ≤ L.length → acc.length ≤ i →
    G_ringlaw5_asked_h_L9 n L r d k (i : Int) L acc = some (.x0 L (acc ++ ((L.drop i).filter (fun x => decide (x.fUp = d.fN) && decide (d.fN > 0))).map (fun x => x.fId)))
  | 0, i, acc, h, _, _ => by omega
  | k + 1, i, acc, h, hi, ha => by
    rw [G_ringlaw5_asked_h_L9]
    by_cases h1 : i < L.length
    · have c1 : G_ringlaw5_asked_h_C8 n L (i : Int) r L d acc = some (.x0 L (if (decide (L[i].fUp = d.fN) && decide (d.fN > 0)) = true then acc ++ [L[i].fId] else acc)) := by
        unfold G_ringlaw5_asked_h_C8
        rw [if_pos ⟨by omega, by simpa using h1⟩, Int.toNat_natCast, List.getElem?_eq_getElem h1, Option.bind_some]
        by_cases h2 : L[i].fUp = d.fN
        · rw [if_pos h2]
          by_cases h3 : d.fN > 0
          · rw [if_pos h3, app_some (by simp; omega) (by omega), Option.bind_some]; simp [h2, h3]
          · rw [if_neg h3, if_neg (by simp [h3])]
        · rw [if_neg h2, if_neg (by simp [h2])]
      rw [if_pos (by omega), c1, Option.bind_some, wi_succ (by omega), List.drop_eq_getElem_cons h1, List.filter_cons]
      simp only
      by_cases h4 : (decide (L[i].fUp = d.fN) && decide (d.fN > 0)) = true
      · rw [if_pos h4, if_pos h4, l9_loop n r d L hl k (i + 1) _ (by omega) (by omega) (by simp; omega)]
        simp
      · rw [if_neg h4, if_neg h4, l9_loop n r d L hl k (i + 1) _ (by omega) (by omega) (by omega)]
    · rw [if_neg (by omega), List.drop_eq_nil_of_le (by omega)]
      simp
theorem c10_any (n : Nat) (hn : 110 < n) (t : Tb) (hi : Inv t) (a b : Int) (d : S_ringlaw5_Deed) (K : List Int) (hK : K = ((procs t).filter (fun x => decide (x.fUp = d.fN) && decide (d.fN > 0))).map (fun x => x.fId)) :
    G_ringlaw5_asked_h_C10 n (a, b, t) (procs t) d K = some (.x0 true t (procs t)) := by
  have hl := procs_len t
  have hz : up t 0 = false := by simp [up, hi.z]
  unfold G_ringlaw5_asked_h_C10
  simp only
  rw [all_any n (by omega) t, Option.bind_some, living_any n hn (fun y0 : Pr => G_ringlaw5_asked_1 n y0) (fun _ => true) (procs t) (by omega) (fun x => rfl), Option.bind_some]
  simp only
  rw [equal_same n _ _ (ids_procs t _ _ (by simp [hi.z]) (fun k _ _ => by
    rcases hi.st k with q | q | q <;> simp [up, mkp, q])).symm (ids_len _) hn, Option.bind_some, if_pos rfl]
  rw [of_any n (by omega) t, Option.bind_some, living_any n hn (fun y0 : Pr => G_ringlaw5_asked_2 n y0 d) (fun x => x.fGroup == d.fN) (procs t) (by omega) (fun x => rfl), Option.bind_some]
  simp only
  rw [equal_same n _ _ (ids_procs t _ _ (by simp [hi.z]) (fun k _ _ => by
    rcases hi.st k with q | q | q <;> simp [up, mkp, q] <;> rfl)).symm (ids_len _) hn, Option.bind_some, if_pos rfl]
  rw [kids_any n (by omega) t, Option.bind_some, hK]
  simp only
  rw [equal_same n _ _ (ids_procs t _ _ (by simp [child, hz]) (fun k _ _ => by
    unfold child
    rw [Bool.and_assoc]
    rfl)).symm (ids_len _) hn, Option.bind_some]
theorem asked_any (n : Nat) (hn : 110 < n) (t : Tb) (hi : Inv t) (d : S_ringlaw5_Deed) : G_ringlaw5_asked_h n t (procs t) d = some (true, t, procs t) := by
  have hl := procs_len t
  have fin : ∀ a b : Int, ((G_ringlaw5_asked_h_L9 n (procs t) (a, b, t) d n 0 (procs t) ([] : List Int)).bind fun v_o1941 => match v_o1941 with
    | .x0 v_z1942 v_z1943 =>
      (G_ringlaw5_asked_h_C10 n (a, b, t) v_z1942 d v_z1943).bind fun v_o2033 => match v_o2033 with
      | .x0 v_z2034 v_z2035 v_z2036 =>
        some (v_z2034, v_z2035, v_z2036)) = some (true, t, procs t) := by
    intro a b
    have h := l9_loop n (a, b, t) d (procs t) (by omega) n 0 [] (by omega) (by omega) (by simp)
    have h : G_ringlaw5_asked_h_L9 n (procs t) (a, b, t) d n 0 (procs t) [] = _ := h
    rw [h, Option.bind_some]
    simp only []
    rw [c10_any n hn t hi a b d _ (by simp), Option.bind_some]
  obtain ⟨dk, p, dn⟩ := d
  unfold G_ringlaw5_asked_h
  simp only
  by_cases hp : 1 ≤ p ∧ p ≤ 16
  · obtain ⟨k, rfl⟩ := Int.eq_ofNat_of_zero_le (show 0 ≤ p by omega)
    have s1 : G_proc_Table_State_h n t (k : Int) = some ((en t k).fstate, 0, t) := by
      unfold G_proc_Table_State_h
      rw [number_any, Option.bind_some, if_pos (by simp; omega), if_pos ⟨by omega, by omega⟩, getT (by omega), Option.bind_some]
    have s2 : G_proc_Table_Parent_h n t (k : Int) = some (if (en t k).fstate = 0 then (0, 4, t) else ((en t k).fparent, 0, t)) := by
      unfold G_proc_Table_Parent_h
      rw [number_any, Option.bind_some, if_pos (by simp; omega), if_pos ⟨by omega, by omega⟩, getT (by omega), Option.bind_some]
      by_cases q : (en t k).fstate = 0
      · rw [if_pos q, if_pos q]
      · rw [if_neg q, if_neg q, if_pos ⟨by omega, by omega⟩, Option.bind_some]
    have s3 : G_proc_Table_Group_h n t (k : Int) = some (if (en t k).fstate = 1 then ((en t k).fgroup, 0, t) else (0, 4, t)) := by
      unfold G_proc_Table_Group_h
      have he : err t (k : Int) = if (en t k).fstate = 1 then 0 else 4 := by
        unfold err
        rw [if_neg (by omega), Int.toNat_natCast]
      rw [err_tab, Option.bind_some, he]
      by_cases q : (en t k).fstate = 1
      · simp only [if_pos q]
        rw [if_pos trivial, if_pos ⟨by omega, by omega⟩, getT (by omega), Option.bind_some]
      · simp only [if_neg q]
        rw [if_neg (by decide)]
    rw [s1, Option.bind_some]
    simp only
    by_cases q0 : (en t k).fstate = 0
    · have hu : ¬ up t k = true := by simp [up, q0]
      have q1 : ¬ (en t k).fstate = 1 := by omega
      rw [s2, if_pos q0, Option.bind_some]
      simp only
      rw [s3, if_neg q1, Option.bind_some, find_no n t (k : Int) (by omega) (fun j _ _ hj e => by
        have : j = k := by omega
        subst this; exact hu hj), Option.bind_some]
      have c7 : ∀ d : S_ringlaw5_Deed, d.fP = (k : Int) → G_ringlaw5_asked_h_C7 n ((en t k).fstate, 0, t) (0, 4, t) (0, 4, t) (-1) (procs t) d = some (.x1 (procs t)) := by
        intro d hd
        unfold G_ringlaw5_asked_h_C7
        rw [hd, if_neg (by omega)]
        unfold G_ringlaw5_asked_h_C6
        rw [hd, if_neg (by omega), if_pos (by omega)]
        unfold G_ringlaw5_asked_h_C3
        simp only [q0]
        rfl
      rw [c7 ⟨dk, (k : Int), dn⟩ rfl, Option.bind_some]
      exact fin 0 4
    · have hu : up t k = true := by simp [up, q0]
      obtain ⟨f1, f2, f3⟩ := find_yes n t k (by omega) (by omega) (by omega) hu
      rw [s2, if_neg q0, Option.bind_some]
      simp only
      rw [s3, Option.bind_some]
      have c7 : ∀ d : S_ringlaw5_Deed, d.fP = (k : Int) → G_ringlaw5_asked_h_C7 n ((en t k).fstate, 0, t) ((en t k).fparent, 0, t) (if (en t k).fstate = 1 then ((en t k).fgroup, 0, t) else (0, 4, t)) (((part t 1 (k - 1)).length : Nat) : Int) (procs t) d = some (.x1 (procs t)) := by
        intro d hd
        unfold G_ringlaw5_asked_h_C7
        rw [hd, if_neg (by omega)]
        unfold G_ringlaw5_asked_h_C6
        rw [hd, if_neg (by omega), if_neg (by omega), if_pos ⟨by omega, by simpa using f3⟩, Int.toNat_natCast, f2, Option.bind_some]
        unfold G_ringlaw5_asked_h_C4
        rcases hi.st k with q | q | q
        · exact absurd q q0
        · have e : (mkp t k).fEnded = false := by simp [mkp, q]
          rw [e]
          simp only [Bool.false_eq_true, if_false, Option.bind_some, q, if_true]
          unfold G_ringlaw5_asked_h_C5
          simp [mkp]
        · have e : (mkp t k).fEnded = true := by simp [mkp, q]
          rw [e]
          simp only [if_true, Option.bind_some, q]
          unfold G_ringlaw5_asked_h_C5
          simp [mkp]
      rw [f1, Option.bind_some, c7 ⟨dk, (k : Int), dn⟩ rfl, Option.bind_some]
      by_cases q1 : (en t k).fstate = 1
      · simp only [if_pos q1]
        exact fin _ _
      · simp only [if_neg q1]
        exact fin _ _
  · have s1 : G_proc_Table_State_h n t p = some (0, 1, t) := by
      unfold G_proc_Table_State_h
      rw [number_any, Option.bind_some, if_neg (by simpa using hp)]
    have s2 : G_proc_Table_Parent_h n t p = some (0, 1, t) := by
      unfold G_proc_Table_Parent_h
      rw [number_any, Option.bind_some, if_neg (by simpa using hp)]
    have he : err t p = 1 := by unfold err; rw [if_pos (by omega)]
    have s3 : G_proc_Table_Group_h n t p = some (0, 1, t) := by
      unfold G_proc_Table_Group_h
      rw [err_tab, Option.bind_some, he]
      rfl
    rw [s1, Option.bind_some]
    simp only
    rw [s2, Option.bind_some]
    simp only
    rw [s3, Option.bind_some, find_no n t p (by omega) (fun j j1 j2 _ e => by omega), Option.bind_some]
    have c7 : ∀ d : S_ringlaw5_Deed, d.fP = p → G_ringlaw5_asked_h_C7 n (0, 1, t) (0, 1, t) (0, 1, t) (-1) (procs t) d = some (.x1 (procs t)) := by
      intro d hd
      unfold G_ringlaw5_asked_h_C7
      rw [hd]
      by_cases h1 : p < 1
      · rw [if_pos h1]
        unfold G_ringlaw5_asked_h_C1
        rfl
      · rw [if_neg h1]
        unfold G_ringlaw5_asked_h_C6
        rw [hd, if_pos (by omega)]
        unfold G_ringlaw5_asked_h_C2
        rfl
    rw [c7 ⟨dk, p, dn⟩ rfl, Option.bind_some]
    exact fin 0 1
/-- what leading a group gives -/
theorem lead_any (n : Nat) (hn : 110 < n) (t : Tb) (hi : Inv t) (y : S_ringlaw5_Deed) (l : List S_ringlaw5_Deed) (x : Int) :
    ∃ (e : Int) (t' : Tb), Inv t' ∧ G_proc_Table_Lead_h n t y.fP y.fN = some (e, t') ∧ ∃ b, G_ringlaw5_ProcPlays_C15 n (err t y.fP) l x t (procs t) y = some (.x0 b (procs t)) ∧ ∃ o, G_ringlaw5_ProcPlays_C17 n (err t y.fP) l x b t (procs t) y = some o ∧ (match o with | .x0 e' w => e' = e ∧ w = procs t' | .x1 e' w => e' = e ∧ w = procs t') := by
  have hl := procs_len t
  obtain ⟨dk, p, g⟩ := y
  simp only
  unfold G_proc_Table_Lead_h G_ringlaw5_ProcPlays_C15 G_ringlaw5_ProcPlays_C17 G_ringlaw5_ProcPlays_C16
  simp only
  rw [err_tab, Option.bind_some]
  by_cases he : err t p = 0
  · obtain ⟨k, rfl, k1, k2, ks⟩ := err0 he
    simp only [he, if_true]
    rw [number_any, Option.bind_some]
    by_cases hg : 1 ≤ g ∧ g ≤ 16
    · rw [if_pos (show decide (1 ≤ g ∧ g ≤ 16) = true by simpa using hg), if_neg (show ¬ g < 1 by omega), decide_eq_false (show ¬ g > 16 by omega)]
      have hset : ∀ e : S_proc_entry, e = ⟨(en t k).fstate, (en t k).fparent, g, (en t k).fstatus⟩ → Inv (upd t k e) ∧ procs (upd t k e) = (procs t).set (part t 1 (k - 1)).length ⟨(mkp t k).fId, (mkp t k).fUp, g, (mkp t k).fStatus, (mkp t k).fEnded⟩ := by
        intro e e0
        subst e0
        refine ⟨inv_upd hi k _ k1 k2 (by simp only; omega) (fun _ => ks), ?_⟩
        rw [procs_set t k _ k1 k2 (up1 ks) (by simp only; omega)]
        rfl
      obtain ⟨f1, f2, f3⟩ := find_yes n t k (by omega) k1 k2 (up1 ks)
      by_cases hgp : g = (k : Int)
      · rw [if_pos hgp, if_pos ⟨by omega, by omega⟩, getT (by omega), Option.bind_some]
        refine ⟨0, upd t k ⟨(en t k).fstate, (en t k).fparent, g, (en t k).fstatus⟩, (hset _ rfl).1, rfl, false, rfl, ?_⟩
        rw [if_neg (show ¬ (false : Bool) = true by simp), if_pos hgp, Option.bind_some]
        simp only [Bool.false_eq_true, if_false]
        rw [f1, Option.bind_some, if_pos ⟨by omega, by simpa using f3⟩, Int.toNat_natCast, f2, Option.bind_some]
        exact ⟨_, rfl, rfl, (hset _ rfl).2.symm⟩
      · have hids : ((procs t).filter (fun x => !x.fEnded && (x.fGroup == g))).map (fun x => x.fId) = ids (fun k => decide ((en t k).fstate = 1) && decide ((en t k).fgroup = g)) :=
          ids_procs t _ _ (by simp [hi.z]) (fun k _ _ => by rcases hi.st k with q | q | q <;> simp [up, mkp, q] <;> rfl)
        rw [if_neg hgp, of_any n (by omega) t, Option.bind_some]
        simp only
        have hliv := living_any n hn (fun y0 : Pr => G_ringlaw5_ProcPlays_1 n y0 ⟨dk, (k : Int), g⟩) (fun x => x.fGroup == g) (procs t) (by omega) (fun x => rfl)
        rw [hids] at hliv
        by_cases hz : ((ids (fun k => decide ((en t k).fstate = 1) && decide ((en t k).fgroup = g))).length : Int) = 0
        · rw [if_pos hz]
          refine ⟨4, t, hi, rfl, false, rfl, ?_⟩
          rw [if_neg (show ¬ (false : Bool) = true by simp), if_neg hgp, hliv, Option.bind_some, Option.bind_some]
          simp only [hz]
          exact ⟨_, rfl, rfl, rfl⟩
        · rw [if_neg hz, if_pos ⟨by omega, by omega⟩, getT (by omega), Option.bind_some]
          refine ⟨0, upd t k ⟨(en t k).fstate, (en t k).fparent, g, (en t k).fstatus⟩, (hset _ rfl).1, rfl, false, rfl, ?_⟩
          rw [if_neg (show ¬ (false : Bool) = true by simp), if_neg hgp, hliv, Option.bind_some, Option.bind_some]
          have hb : (((ids (fun k => decide ((en t k).fstate = 1) && decide ((en t k).fgroup = g))).length : Int) == 0) = false := by simpa using hz
          simp only [hb, Bool.false_eq_true, if_false]
          rw [f1, Option.bind_some, if_pos ⟨by omega, by simpa using f3⟩, Int.toNat_natCast, f2, Option.bind_some]
          exact ⟨_, rfl, rfl, (hset _ rfl).2.symm⟩
    · rw [if_neg (show ¬ decide (1 ≤ g ∧ g ≤ 16) = true by simpa using hg)]
      refine ⟨1, t, hi, rfl, true, ?_, ?_⟩
      · by_cases h1 : g < 1
        · rw [if_pos h1]
        · rw [if_neg h1, decide_eq_true (show g > 16 by omega)]
      · rw [if_pos (show (true : Bool) = true from rfl)]
        exact ⟨_, rfl, rfl, rfl⟩
  · rw [if_neg he, if_neg he]
    refine ⟨err t p, t, hi, rfl, false, rfl, ?_⟩
    rw [if_neg (show ¬ (false : Bool) = true by simp), if_neg he, Option.bind_some]
    simp only [Bool.false_eq_true, if_false]
    rw [if_neg he]
    exact ⟨_, rfl, rfl, rfl⟩
theorem c18_any (n : Nat) (hn : 110 < n) (t : Tb) (hi : Inv t) (y : S_ringlaw5_Deed) (l : List S_ringlaw5_Deed) (x kd : Int) :
    ∃ o, G_ringlaw5_ProcPlays_C18 n (err t y.fP) l x kd t (procs t) y = some o ∧ (match o with | .x0 b t' w => b = true ∧ Inv t' ∧ w = procs t' | .x1 b t' w => b = true ∧ Inv t' ∧ w = procs t' | .x2 b w => b = true ∧ w = procs t) := by
  unfold G_ringlaw5_ProcPlays_C18
  by_cases k0 : kd = 0
  · rw [if_pos k0]
    by_cases he : err t y.fP = 0
    · obtain ⟨k, hk, k1, k2, ks⟩ := err0 he
      obtain ⟨m, t', a1, a2, a3⟩ := fork_any n (by omega) t k hi k1 k2 ks (by rw [← hk]; exact he)
      rw [← hk] at a1 a2
      rw [a1, Option.bind_some]
      unfold G_ringlaw5_ProcPlays_C11
      simp only [he, if_true]
      rw [a2, Option.bind_some]
      simp only
      by_cases hm : m = 0
      · subst hm
        exact ⟨_, rfl, rfl, a3, rfl⟩
      · rw [if_neg (by omega), if_neg hm, Option.bind_some]
        simp only [if_true]
        exact ⟨_, rfl, rfl, a3, rfl⟩
    · have a1 : G_proc_Table_Fork_h n t y.fP = some (0, err t y.fP, t) := by
        unfold G_proc_Table_Fork_h
        rw [err_tab, Option.bind_some]
        simp only
        rw [if_neg he]
      rw [a1, Option.bind_some]
      unfold G_ringlaw5_ProcPlays_C11
      rw [if_neg he, Option.bind_some]
      simp only [if_true]
      exact ⟨_, rfl, by simp, hi, rfl⟩
  rw [if_neg k0]
  by_cases k1 : kd = 1
  · rw [if_pos k1]
    by_cases he : err t y.fP = 0
    · obtain ⟨k, hk, q1, q2, ks⟩ := err0 he
      by_cases hp : k = 1
      · have a1 : G_proc_Table_Exit_h n t y.fP y.fN = some (0, 7, t) := by
          unfold G_proc_Table_Exit_h
          rw [err_tab, he, Option.bind_some]
          simp only [if_true]
          rw [if_pos (by omega)]
        rw [a1, Option.bind_some, if_pos he]
        unfold G_ringlaw5_ProcPlays_C12
        rw [if_pos (by omega), Option.bind_some]
        simp only [if_true]
        exact ⟨_, rfl, rfl, hi, rfl⟩
      · obtain ⟨m, t', a1, a2, a3⟩ := exit_any n (by omega) t k y.fN hi (by omega) q2 ks (by rw [← hk]; exact he)
        rw [← hk] at a1 a2
        rw [a1, Option.bind_some, if_pos he]
        unfold G_ringlaw5_ProcPlays_C12
        rw [if_neg (by omega), if_pos he, a2, Option.bind_some, Option.bind_some]
        simp only [if_true]
        exact ⟨_, rfl, by simp [he], a3, rfl⟩
    · have a1 : G_proc_Table_Exit_h n t y.fP y.fN = some (0, err t y.fP, t) := by
        unfold G_proc_Table_Exit_h
        rw [err_tab, Option.bind_some]
        simp only
        rw [if_neg he]
      rw [a1, Option.bind_some, if_neg he]
      simp only [if_true]
      exact ⟨_, rfl, by simp, hi, rfl⟩
  rw [if_neg k1]
  by_cases k2 : kd = 2
  · rw [if_pos k2]
    by_cases he : err t y.fP = 0
    · obtain ⟨a, b, c, t', a1, a2, a3⟩ := wait_any n (by omega) t y.fP hi he
      rw [a1, Option.bind_some, if_pos he, a2, Option.bind_some]
      unfold G_ringlaw5_ProcPlays_C13
      simp only [if_true, Option.bind_some]
      exact ⟨_, rfl, by simp, a3, rfl⟩
    · have a1 : G_proc_Table_Wait_h n t y.fP = some (0, 0, err t y.fP, t) := by
        unfold G_proc_Table_Wait_h
        rw [err_tab, Option.bind_some]
        simp only
        rw [if_neg he]
      rw [a1, Option.bind_some, if_neg he]
      unfold G_ringlaw5_ProcPlays_C14
      simp only [if_true, Option.bind_some]
      exact ⟨_, rfl, by simp, hi, rfl⟩
  rw [if_neg k2]
  by_cases k3 : kd = 3
  · rw [if_pos k3]
    obtain ⟨e, t', a1, a2, b, a3, o, a4, a5⟩ := lead_any n hn t hi y l x
    rw [a3, Option.bind_some]
    simp only []
    rw [a4, Option.bind_some]
    cases o with
    | x0 e' w =>
      simp only at a5 ⊢
      obtain ⟨rfl, rfl⟩ := a5
      rw [a2, Option.bind_some]
      exact ⟨_, rfl, by simp, a1, rfl⟩
    | x1 e' w =>
      simp only at a5 ⊢
      obtain ⟨rfl, rfl⟩ := a5
      rw [a2, Option.bind_some]
      exact ⟨_, rfl, by simp, a1, rfl⟩
  rw [if_neg k3]
  exact ⟨_, rfl, rfl, rfl⟩
theorem c20_any (n : Nat) (hn : 110 < n) (t : Tb) (hi : Inv t) (l : List S_ringlaw5_Deed) (i : Nat) (y : S_ringlaw5_Deed) (hy : l[i]? = some y) :
    ∃ t', Inv t' ∧ G_ringlaw5_ProcPlays_C20 n l (i : Int) t (procs t) = some (.x1 t' (procs t')) := by
  unfold G_ringlaw5_ProcPlays_C20
  rw [getI_nat, hy, Option.bind_some, err_list n t y.fP hi (by omega), Option.bind_some, rest_any n _ 5 (by omega) (by omega), Option.bind_some]
  obtain ⟨o, o1, o2⟩ := c18_any n hn t hi y l (i : Int) (y.fKind % 5)
  unfold G_ringlaw5_ProcPlays_C19
  rw [o1, Option.bind_some]
  cases o with
  | x0 b t' w =>
    obtain ⟨rfl, q1, rfl⟩ := o2
    simp only [Option.bind_some, if_true]
    rw [asked_any n hn t' q1 y, Option.bind_some]
    exact ⟨t', q1, rfl⟩
  | x1 b t' w =>
    obtain ⟨rfl, q1, rfl⟩ := o2
    simp only [Option.bind_some, if_true]
    rw [asked_any n hn t' q1 y, Option.bind_some]
    exact ⟨t', q1, rfl⟩
  | x2 b w =>
    obtain ⟨rfl, rfl⟩ := o2
    simp only [Option.bind_some, if_true]
    rw [asked_any n hn t hi y, Option.bind_some]
    exact ⟨t, hi, rfl⟩
theorem main_loop (n : Nat) (hn : 110 < n) (l : List S_ringlaw5_Deed) (hl : l.length < 4611686018427387000) : ∀ (k i : Nat) (t : Tb), Inv t → l.length - i < k → i ≤ l.length →
    G_ringlaw5_ProcPlays_L21 n l k (i : Int) t (procs t) = some .x1
  | 0, i, t, _, h, _ => by omega
  | k + 1, i, t, hi, h, hil => by
    rw [G_ringlaw5_ProcPlays_L21]
    by_cases hlt : (i : Int) < (l.length : Int)
    · obtain ⟨y, hy⟩ := get_lt hlt
      obtain ⟨t', q1, q2⟩ := c20_any n hn t hi l i y hy
      rw [if_pos hlt, q2, Option.bind_some, wi_succ (by omega)]
      exact main_loop n hn l hl k (i + 1) t' q1 (by omega) (by omega)
    · rw [if_neg hlt]
theorem law (l : List S_ringlaw5_Deed) (hl : l.length < 4611686018427387000) : G_ringlaw5_ProcPlays (l.length + 200) l = some true := by
  unfold G_ringlaw5_ProcPlays G_proc_New_h G_ringref5_FirstProcs_h
  rw [Option.bind_some, Option.bind_some]
  generalize ht : (S_proc_Table.mk (fun i : Fin 17 => [(S_proc_entry.mk 0 0 0 0), (S_proc_entry.mk 1 0 1 0), (S_proc_entry.mk 0 0 0 0), (S_proc_entry.mk 0 0 0 0), (S_proc_entry.mk 0 0 0 0), (S_proc_entry.mk 0 0 0 0), (S_proc_entry.mk 0 0 0 0), (S_proc_entry.mk 0 0 0 0), (S_proc_entry.mk 0 0 0 0), (S_proc_entry.mk 0 0 0 0), (S_proc_entry.mk 0 0 0 0), (S_proc_entry.mk 0 0 0 0), (S_proc_entry.mk 0 0 0 0), (S_proc_entry.mk 0 0 0 0), (S_proc_entry.mk 0 0 0 0), (S_proc_entry.mk 0 0 0 0), (S_proc_entry.mk 0 0 0 0)].get i)) = t
  have he : ∀ k, k < 17 → en t k = if k = 1 then ⟨1, 0, 1, 0⟩ else ⟨0, 0, 0, 0⟩ := by
    intro k hk
    subst ht
    unfold en
    rw [dif_pos hk]
    have : ∀ j : Fin 17, ([(S_proc_entry.mk 0 0 0 0), (S_proc_entry.mk 1 0 1 0), (S_proc_entry.mk 0 0 0 0), (S_proc_entry.mk 0 0 0 0), (S_proc_entry.mk 0 0 0 0), (S_proc_entry.mk 0 0 0 0), (S_proc_entry.mk 0 0 0 0), (S_proc_entry.mk 0 0 0 0), (S_proc_entry.mk 0 0 0 0), (S_proc_entry.mk 0 0 0 0), (S_proc_entry.mk 0 0 0 0), (S_proc_entry.mk 0 0 0 0), (S_proc_entry.mk 0 0 0 0), (S_proc_entry.mk 0 0 0 0), (S_proc_entry.mk 0 0 0 0), (S_proc_entry.mk 0 0 0 0), (S_proc_entry.mk 0 0 0 0)].get j) = if j.1 = 1 then ⟨1, 0, 1, 0⟩ else ⟨0, 0, 0, 0⟩ := by
      rintro ⟨j, hj⟩
      have hc : j = 0 ∨ j = 1 ∨ j = 2 ∨ j = 3 ∨ j = 4 ∨ j = 5 ∨ j = 6 ∨ j = 7 ∨ j = 8 ∨ j = 9 ∨ j = 10 ∨ j = 11 ∨ j = 12 ∨ j = 13 ∨ j = 14 ∨ j = 15 ∨ j = 16 := by omega
      rcases hc with rfl | rfl | rfl | rfl | rfl | rfl | rfl | rfl | rfl | rfl | rfl | rfl | rfl | rfl | rfl | rfl | rfl <;> rfl
    exact this ⟨k, hk⟩
  have hi : Inv t := by
    refine ⟨?_, fun k => ?_, ?_⟩
    · rw [he 0 (by omega)]; rfl
    · by_cases hk : k < 17
      · rw [he k hk]
        split
        · exact .inr (.inl rfl)
        · exact .inl rfl
      · unfold en
        rw [dif_neg hk]
        exact .inl rfl
    · rw [he 1 (by omega)]; rfl
  have hp : procs t = [S_ringref5_Proc.mk 1 0 1 0 false] := by
    unfold procs part
    have e1 : (List.range' 1 16).filter (up t) = (List.range' 1 16).filter (fun k => decide (k = 1)) := List.filter_congr (fun k hk => by
      rw [List.mem_range'_1] at hk
      unfold up
      rw [he k (by omega)]
      by_cases q : k = 1
      · rw [if_pos q, decide_eq_true q]; rfl
      · rw [if_neg q, decide_eq_false q]; rfl)
    rw [e1]
    have e2 : (List.range' 1 16).filter (fun k => decide (k = 1)) = [1] := by decide
    rw [e2]
    simp only [List.map_cons, List.map_nil, mkp, he 1 (by omega)]
    rfl
  rw [← hp]
  have h := main_loop (l.length + 200) (by omega) l hl (l.length + 200) 0 t hi (by omega) (by omega)
  have h : G_ringlaw5_ProcPlays_L21 (l.length + 200) l (l.length + 200) 0 t (procs t) = _ := h
  rw [h]
  rfl
end pp
end Go.Proofs.Ytjjjaakefnnbpaa.pv
