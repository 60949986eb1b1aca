/- LabelRuns returns true for all subjects, objects, accesses and numbers, and leaves its arguments alone. No condition. -/
import Derived.Test.YtjjjaakefnnbpaaLLab
import Derived.ChangeOld
namespace Go.Proofs.Ytjjjaakefnnbpaa.labelRuns
open Go.ChangeShapes Go.WideShapes Go.ChangeAt Go.RowKit help rep pv
set_option linter.all false

def at6 (A : Fin 6 → Bool) (j : Nat) : Bool := if h : j < 6 then A ⟨j, h⟩ else false
theorem getA6 {A : Fin 6 → Bool} {j : Nat} (h : j < 6) : getA A (j : Int) = some (at6 A j) := by
  unfold getA at6
  rw [dif_pos ⟨by omega, by omega⟩, dif_pos h]
  simp
theorem setA6 {A : Fin 6 → Bool} {i j : Nat} {b : Bool} (h : j < 6) : at6 (setA A (i : Int) b) j = if j = i then b else at6 A j := by
  unfold at6 setA
  rw [dif_pos h, dif_pos h]
  simp
def lst (A : Fin 6 → Bool) (i : Nat) : List Int := (((List.range 6).drop i).filter (fun j => at6 A j)).map (fun j : Nat => (j : Int))
structure Inv (A : Fin 6 → Bool) (l : List Int) : Prop where
  mem : ∀ j : Nat, j < 6 → ((j : Int) ∈ l ↔ at6 A j = true)
  bd : ∀ x ∈ l, 0 ≤ x ∧ x < 6
  nd : l.Nodup
theorem Inv.perm {A : Fin 6 → Bool} {l : List Int} (h : Inv A l) : l.Perm (lst A 0) := by
  refine (List.perm_ext_iff_of_nodup h.nd ?_).2 fun x => ?_
  · unfold lst
    refine List.Pairwise.map _ (fun a b (hab : a ≠ b) (e : (a : Int) = (b : Int)) => hab (by omega)) ?_
    rw [List.drop_zero]
    exact List.Pairwise.filter _ List.nodup_range
  · unfold lst
    rw [List.drop_zero, List.mem_map]
    constructor
    · intro hx
      obtain ⟨h0, h1⟩ := h.bd x hx
      obtain ⟨j, rfl⟩ := Int.eq_ofNat_of_zero_le h0
      exact ⟨j, by rw [List.mem_filter, List.mem_range]; exact ⟨by omega, (h.mem j (by omega)).1 hx⟩, rfl⟩
    · rintro ⟨j, hj, rfl⟩
      rw [List.mem_filter, List.mem_range] at hj
      exact (h.mem j hj.1).2 hj.2
theorem lst_len (A : Fin 6 → Bool) (i : Nat) : (lst A i).length ≤ 6 := by
  unfold lst
  rw [List.length_map]
  have := List.length_filter_le (fun j => at6 A j) ((List.range 6).drop i)
  simp at this; omega
theorem lst_sorted (A : Fin 6 → Bool) : (lst A 0).Pairwise (· ≤ ·) := by
  unfold lst
  refine List.Pairwise.map _ (fun a b (hab : a < b) => by omega) ?_
  rw [List.drop_zero]
  exact List.Pairwise.filter _ List.pairwise_lt_range
theorem Inv.len {A : Fin 6 → Bool} {l : List Int} (h : Inv A l) : l.length ≤ 6 := by
  rw [h.perm.length_eq]; exact lst_len A 0
theorem Inv.has {A : Fin 6 → Bool} {l : List Int} (h : Inv A l) {j : Nat} (hj : j < 6) : l.contains (j : Int) = at6 A j := by
  rw [Bool.eq_iff_iff, List.contains_iff_mem]; exact h.mem j hj
theorem Inv.same {A A' : Fin 6 → Bool} {l : List Int} (h : Inv A l) (he : ∀ j, j < 6 → at6 A' j = at6 A j) : Inv A' l := ⟨fun j hj => by rw [he j hj]; exact h.mem j hj, h.bd, h.nd⟩
theorem Inv.add {A A' : Fin 6 → Bool} {l : List Int} {i : Nat} (h : Inv A l) (hi : i < 6) (h0 : at6 A i = false) (he : ∀ j, j < 6 → at6 A' j = if j = i then true else at6 A j) : Inv A' (l ++ [(i : Int)]) := by
  refine ⟨fun j hj => ?_, fun x hx => ?_, ?_⟩
  · rw [he j hj, List.mem_append, List.mem_singleton, h.mem j hj]
    by_cases e : j = i
    · subst e; simp
    · rw [if_neg e]
      constructor
      · rintro (a | a)
        · exact a
        · omega
      · exact .inl
  · rw [List.mem_append, List.mem_singleton] at hx
    rcases hx with hx | hx
    · exact h.bd x hx
    · omega
  · rw [List.nodup_append]
    refine ⟨h.nd, by simp, fun a ha b hb e => ?_⟩
    rw [List.mem_singleton] at hb
    subst hb e
    have := (h.mem i hi).1 ha
    rw [h0] at this; cases this
theorem c6_any (n : Nat) (r : List Bool × Int) (acts : List S_label_Act) (x : Int) (a : S_label_Act) (K H : Fin 6 → Bool) {w t : Nat} (hw : a.fWho = (w : Int)) (ht : a.fWhat = (t : Int)) (w6 : w < 6) (t6 : t < 6) :
    G_label_Taint_C6 n r acts x a K H = if a.fWrite = true then (if at6 H t = true then some .x0 else some (.x1 (setA H (t : Int) (at6 K w)))) else (if at6 K w = true then some .x2 else some (.x3 (setA K (w : Int) (at6 H t)))) := by
  unfold G_label_Taint_C6
  have q1 : (0 ≤ (t : Int) ∧ (t : Int) < 6) = True := eq_true (by omega)
  have q2 : (0 ≤ (w : Int) ∧ (w : Int) < 6) = True := eq_true (by omega)
  rw [hw, ht]
  simp only [q1, q2, if_true, getA6 w6, getA6 t6, Option.bind_some]
theorem c7_any (n : Nat) (r : List Bool × Int) (acts : List S_label_Act) (i : Nat) (a : S_label_Act) (d : Bool) (K H : Fin 6 → Bool) (ha : acts[i]? = some a) (hd : r.1[i]? = some d) {w t : Nat} (hw : a.fWho = (w : Int)) (ht : a.fWhat = (t : Int)) (w6 : w < 6) (t6 : t < 6) :
    (d = false ∧ G_label_Taint_C7 n r acts (i : Int) K H = some .x0) ∨
    (d = true ∧ a.fWrite = true ∧ ∃ H', G_label_Taint_C7 n r acts (i : Int) K H = some (.x1 H') ∧ ∀ j, j < 6 → at6 H' j = if j = t then (at6 H t || at6 K w) else at6 H j) ∨
    (d = true ∧ a.fWrite = false ∧ ∃ K', G_label_Taint_C7 n r acts (i : Int) K H = some (.x2 K') ∧ ∀ j, j < 6 → at6 K' j = if j = w then (at6 K w || at6 H t) else at6 K j) := by
  unfold G_label_Taint_C7
  rw [getI_nat, getI_nat, ha, hd, Option.bind_some, Option.bind_some, c6_any n r acts _ a K H hw ht w6 t6]
  cases d with
  | false => exact .inl ⟨rfl, rfl⟩
  | true =>
    cases hr : a.fWrite with
    | true =>
      refine .inr (.inl ⟨rfl, rfl, ?_⟩)
      cases hH : at6 H t with
      | true =>
        refine ⟨setA H a.fWhat true, rfl, fun j hj => ?_⟩
        rw [ht, setA6 hj]; simp
      | false =>
        refine ⟨setA H (t : Int) (at6 K w), rfl, fun j hj => ?_⟩
        rw [setA6 hj]; simp
    | false =>
      refine .inr (.inr ⟨rfl, rfl, ?_⟩)
      cases hK : at6 K w with
      | true =>
        refine ⟨setA K a.fWho true, rfl, fun j hj => ?_⟩
        rw [hw, setA6 hj]; simp
      | false =>
        refine ⟨setA K (w : Int) (at6 H t), rfl, fun j hj => ?_⟩
        rw [setA6 hj]; simp
section
variable (who what : List S_label_Label) (acts : List S_label_Act) (hw1 : who.all okl = true) (hw2 : what.all okl = true) (l1 : who.length ≤ 6) (l2 : what.length ≤ 6) (l3 : acts.length ≤ 40) (hin : acts.all (inr who what) = true)
include hw1 hw2 l1 l2 l3 hin
theorem c14_any (n : Nat) (hn : 100 ≤ n) (r406 : List Int × List Int × Int) (i : Nat) (a : S_label_Act) (ks hs : List Int) (ha : acts[i]? = some a) (lk : ks.length ≤ 6) (lh : hs.length ≤ 6) :
    G_ringlaw5_LabelRuns_C14 n (acts.map (flow who what), 0) r406 acts (i : Int) who what ks hs = some (.x1
      (if (flow who what a && !a.fWrite && hs.contains a.fWhat && !ks.contains a.fWho) = true then ks ++ [a.fWho] else ks)
      (if (flow who what a && a.fWrite && ks.contains a.fWho && !hs.contains a.fWhat) = true then hs ++ [a.fWhat] else hs)) := by
  obtain ⟨w, t, p, q, e1, e2, _, _, e3, e4, e5⟩ := inr_get who what (List.all_eq_true.1 hin a (List.mem_of_getElem? ha))
  have hp := all_get hw1 e3
  have hq := all_get hw2 e4
  have hd : (acts.map (flow who what))[i]? = some (flow who what a) := by simp [ha]
  have ap : ∀ (l : List Int) (x : Int), l.length ≤ 6 → app 8 l [x] = some (l ++ [x]) := fun l x h => app_some (by simp; omega) (by omega)
  unfold G_ringlaw5_LabelRuns_C14
  have g1 : getI who a.fWho = some p := by rw [e1, getI_nat, e3]
  have g2 : getI what a.fWhat = some q := by rw [e2, getI_nat, e4]
  rw [getI_nat, ha, Option.bind_some, g1, g2]
  simp only [Option.bind_some]
  have ck := contains_any n ks a.fWho (by omega) (by omega)
  have ch := contains_any n hs a.fWhat (by omega) (by omega)
  unfold G_ringlaw5_LabelRuns_C7
  cases hwr : a.fWrite with
  | false =>
    have e5' : fl q p = flow who what a := by rw [e5, hwr]; rfl
    simp only [Bool.false_eq_true, if_false, Option.bind_some]
    rw [getI_nat, hd, Option.bind_some, flowsof_any n (by omega) hq hp, Option.bind_some, e5', if_neg (by simp [eqRes])]
    unfold G_ringlaw5_LabelRuns_C8
    simp only [getI_nat, hd, Option.bind_some, hwr, Bool.false_eq_true, if_false, ite_self]
    unfold G_ringlaw5_LabelRuns_C9
    simp only [Bool.false_eq_true, if_false, Option.bind_some]
    unfold G_ringlaw5_LabelRuns_C10
    simp only [getI_nat, hd, Option.bind_some, hwr, Bool.false_eq_true, if_false, ck, ch]
    cases hf : flow who what a <;> cases hc2 : hs.contains a.fWhat <;> cases hc1 : ks.contains a.fWho <;> simp [ap ks a.fWho lk]
  | true =>
    have e5' : fl p q = flow who what a := by rw [e5, hwr]; rfl
    simp only [if_true, Option.bind_some]
    rw [getI_nat, hd, Option.bind_some, flowsof_any n (by omega) hp hq, Option.bind_some, e5', if_neg (by simp [eqRes])]
    unfold G_ringlaw5_LabelRuns_C11
    simp only [getI_nat, hd, Option.bind_some, hwr, if_true, ck, ch]
    cases hf : flow who what a <;> cases hc1 : ks.contains a.fWho <;> cases hc2 : hs.contains a.fWhat <;>
      simp [G_ringlaw5_LabelRuns_C12, G_ringlaw5_LabelRuns_C13, getI_nat, hd, hf, hwr, ap hs a.fWhat lh]
theorem c24_nil (n : Nat) (hn : 100 ≤ n) (r406 : List Int × List Int × Int) (i : Nat) (a : S_label_Act) (ha : acts[i]? = some a) :
    G_ringlaw5_LabelRuns_C24 n (acts.map (flow who what), 0) r406 acts (i : Int) who what [] [] = some (.x1 [] []) := by
  obtain ⟨w, t, p, q, e1, e2, _, _, e3, e4, e5⟩ := inr_get who what (List.all_eq_true.1 hin a (List.mem_of_getElem? ha))
  have hp := all_get hw1 e3
  have hq := all_get hw2 e4
  have hd : (acts.map (flow who what))[i]? = some (flow who what a) := by simp [ha]
  unfold G_ringlaw5_LabelRuns_C24
  have g1 : getI who a.fWho = some p := by rw [e1, getI_nat, e3]
  have g2 : getI what a.fWhat = some q := by rw [e2, getI_nat, e4]
  rw [getI_nat, ha, Option.bind_some, g1, g2]
  simp only [Option.bind_some]
  have ck := contains_any n [] a.fWho (by simp) (by simp; omega)
  have ch := contains_any n [] a.fWhat (by simp) (by simp; omega)
  unfold G_ringlaw5_LabelRuns_C17
  cases hwr : a.fWrite with
  | false =>
    have e5' : fl q p = flow who what a := by rw [e5, hwr]; rfl
    simp only [Bool.false_eq_true, if_false, Option.bind_some]
    rw [getI_nat, hd, Option.bind_some, flowsof_any n (by omega) hq hp, Option.bind_some, e5', if_neg (by simp [eqRes])]
    cases hf : flow who what a <;> simp [G_ringlaw5_LabelRuns_C18, G_ringlaw5_LabelRuns_C19, G_ringlaw5_LabelRuns_C20, getI_nat, hd, hf, hwr, ck, ch]
  | true =>
    have e5' : fl p q = flow who what a := by rw [e5, hwr]; rfl
    simp only [if_true, Option.bind_some]
    rw [getI_nat, hd, Option.bind_some, flowsof_any n (by omega) hp hq, Option.bind_some, e5', if_neg (by simp [eqRes])]
    cases hf : flow who what a <;> simp [G_ringlaw5_LabelRuns_C21, G_ringlaw5_LabelRuns_C22, G_ringlaw5_LabelRuns_C23, getI_nat, hd, hf, hwr, ck, ch]
theorem l25_nil (n : Nat) (hn : 100 ≤ n) (r406 : List Int × List Int × Int) : ∀ (k i : Nat), acts.length - i < k → i ≤ acts.length → G_ringlaw5_LabelRuns_L25 n (acts.map (flow who what), 0) r406 acts who what k (i : Int) [] [] = some (.x1 [] [])
  | 0, i, h, _ => by omega
  | k + 1, i, h, hi => by
    rw [G_ringlaw5_LabelRuns_L25]
    by_cases hlt : (i : Int) < (acts.length : Int)
    · obtain ⟨a, ha⟩ := get_lt hlt
      rw [if_pos hlt, c24_nil who what acts hw1 hw2 l1 l2 l3 hin n hn r406 i a ha, Option.bind_some]
      simp only []
      rw [wi_succ (by omega)]
      exact l25_nil n hn r406 k (i + 1) (by omega) (by omega)
    · rw [if_neg hlt]
theorem joint (n : Nat) (hn : 100 ≤ n) (r406 : List Int × List Int × Int) : ∀ (k i : Nat) (K H : Fin 6 → Bool) (ks hs : List Int), acts.length - i < k → i ≤ acts.length → Inv K ks → Inv H hs → hs ≠ [] →
    ∃ K' H' ks' hs', G_label_Taint_L8 n (acts.map (flow who what), 0) acts k (i : Int) K H = some (.x0 K' H') ∧ G_ringlaw5_LabelRuns_L15 n (acts.map (flow who what), 0) r406 acts who what k (i : Int) ks hs = some (.x1 ks' hs') ∧ Inv K' ks' ∧ Inv H' hs' ∧ hs' ≠ []
  | 0, i, K, H, ks, hs, h, _, _, _, _ => by omega
  | k + 1, i, K, H, ks, hs, h, hi, ik, ih, h0 => by
    rw [G_label_Taint_L8, G_ringlaw5_LabelRuns_L15]
    by_cases hlt : (i : Int) < (acts.length : Int)
    · obtain ⟨a, ha⟩ := get_lt hlt
      obtain ⟨w, t, p, q, e1, e2, e6, e7, _⟩ := inr_get who what (List.all_eq_true.1 hin a (List.mem_of_getElem? ha))
      have hd : (acts.map (flow who what))[i]? = some (flow who what a) := by simp [ha]
      have w6 : w < 6 := by omega
      have t6 : t < 6 := by omega
      rw [if_pos hlt, if_pos hlt, c14_any who what acts hw1 hw2 l1 l2 l3 hin n hn r406 i a ks hs ha ik.len ih.len, Option.bind_some, wi_succ (by omega)]
      simp only []
      rw [e1, e2, ik.has w6, ih.has t6]
      rcases c7_any n (acts.map (flow who what), 0) acts i a (flow who what a) K H ha hd e1 e2 w6 t6 with ⟨d, hc⟩ | ⟨d, hr, H', hc, hH⟩ | ⟨d, hr, K', hc, hK⟩
      · rw [hc, Option.bind_some, d]
        simp only [Bool.false_and, Bool.false_eq_true, if_false]
        exact joint n hn r406 k (i + 1) K H ks hs (by omega) (by omega) ik ih h0
      · rw [hc, Option.bind_some, d, hr]
        simp only [Bool.true_and, Bool.not_true, Bool.false_and, Bool.false_eq_true, if_false]
        cases hk : at6 K w with
        | false =>
          simp only [Bool.false_and, Bool.false_eq_true, if_false]
          exact joint n hn r406 k (i + 1) K H' ks hs (by omega) (by omega) ik (ih.same fun j hj => by rw [hH j hj, hk]; by_cases e : j = t <;> simp [e]) h0
        | true =>
          cases hh : at6 H t with
          | true =>
            simp only [Bool.true_and, Bool.not_true, Bool.false_eq_true, if_false]
            exact joint n hn r406 k (i + 1) K H' ks hs (by omega) (by omega) ik (ih.same fun j hj => by rw [hH j hj, hk]; by_cases e : j = t <;> simp [e, hh]) h0
          | false =>
            simp only [Bool.true_and, Bool.not_false, if_true]
            exact joint n hn r406 k (i + 1) K H' ks (hs ++ [(t : Int)]) (by omega) (by omega) ik (ih.add t6 hh fun j hj => by rw [hH j hj, hk]; simp) (by simp)
      · rw [hc, Option.bind_some, d, hr]
        simp only [Bool.true_and, Bool.not_false, Bool.false_and, Bool.false_eq_true, if_false]
        cases hh : at6 H t with
        | false =>
          simp only [Bool.false_and, Bool.false_eq_true, if_false]
          exact joint n hn r406 k (i + 1) K' H ks hs (by omega) (by omega) (ik.same fun j hj => by rw [hK j hj, hh]; by_cases e : j = w <;> simp [e]) ih h0
        | true =>
          cases hk : at6 K w with
          | true =>
            simp only [Bool.true_and, Bool.not_true, Bool.false_eq_true, if_false]
            exact joint n hn r406 k (i + 1) K' H ks hs (by omega) (by omega) (ik.same fun j hj => by rw [hK j hj, hh]; by_cases e : j = w <;> simp [e, hk]) ih h0
          | false =>
            simp only [Bool.true_and, Bool.not_false, if_true]
            exact joint n hn r406 k (i + 1) K' H (ks ++ [(w : Int)]) hs (by omega) (by omega) (ik.add w6 hk fun j hj => by rw [hK j hj, hh]; simp) ih h0
    · rw [if_neg hlt, if_neg hlt]
      exact ⟨K, H, ks, hs, rfl, rfl, ik, ih, h0⟩
end
theorem l10_any (n : Nat) (K H : Fin 6 → Bool) : ∀ (k i : Nat) (x y : List Int), 6 - i < k → i ≤ 6 → x.length ≤ i → y.length ≤ i → G_label_Taint_L10 n K H k (i : Int) x y = some (.x0 (x ++ lst K i) (y ++ lst H i))
  | 0, i, x, y, h, _, _, _ => by omega
  | k + 1, i, x, y, h, hi, hx, hy => by
    rw [G_label_Taint_L10]
    by_cases hlt : i < 6
    · have hr : (List.range 6)[i]? = some i := by rw [List.getElem?_range hlt]
      have ap : ∀ (l : List Int), l.length ≤ i → app 8 l [(i : Int)] = some (l ++ [(i : Int)]) := fun l h => app_some (by simp; omega) (by omega)
      have hl : ∀ A : Fin 6 → Bool, lst A i = (if at6 A i = true then [(i : Int)] else []) ++ lst A (i + 1) := by
        intro A
        unfold lst
        rw [drop_cons hr, List.filter_cons]
        cases at6 A i <;> simp
      have h9 : G_label_Taint_C9 n (i : Int) K H x y = some (.x0 (x ++ (if at6 K i = true then [(i : Int)] else [])) (y ++ (if at6 H i = true then [(i : Int)] else []))) := by
        unfold G_label_Taint_C9
        rw [if_pos (show 0 ≤ (i : Int) ∧ (i : Int) < 6 by omega)]
        simp only [getA6 hlt, Option.bind_some, ap x hx, ap y hy]
        have q : (i : Int) < 6 := by omega
        cases at6 K i <;> cases at6 H i <;> simp [q]
      rw [if_pos (by omega), h9, Option.bind_some]
      simp only []
      rw [wi_succ (by omega), l10_any n K H k (i + 1) _ _ (by omega) (by omega) (by simp only [List.length_append]; split <;> simp <;> omega) (by simp only [List.length_append]; split <;> simp <;> omega), hl K, hl H, List.append_assoc, List.append_assoc]
    · have : i = 6 := by omega
      subst this
      have hz : ∀ A : Fin 6 → Bool, lst A 6 = [] := fun A => rfl
      rw [if_neg (by omega), hz, hz, List.append_nil, List.append_nil]
end Go.Proofs.Ytjjjaakefnnbpaa.labelRuns
