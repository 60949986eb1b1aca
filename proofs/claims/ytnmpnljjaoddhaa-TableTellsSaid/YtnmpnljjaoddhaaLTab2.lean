/- The plain law of TableTells: good nodes, and what a call makes of them. -/
import Derived.Test.YtnmpnljjaoddhaaLTab
namespace Go.Proofs.Ytnmpnljjaoddhaa.tableTells
open Go.RowKit help rep pv
set_option linter.all false
local notation "E0" => S_entry_Entry.mk false false 0 0 false false false

def sh (e : S_entry_Entry) (d : Int) : S_entry_Entry := S_entry_Entry.mk e.fHere e.fSlot (e.fAt + d) e.fRights e.fUsed e.fDirty e.fCopy
/-- the entry that stands for a page of a node -/
def atN (nd : S_table_Node) (k : Nat) : S_entry_Entry := if nd.fHuge = true then sh (nd.fEntries.headD E0) k else nd.fEntries.getD k E0
inductive Good : S_table_Node → Prop where
  | huge (e : S_entry_Entry) : e.fHere = true → e.fAt % 8 = 0 → chk e = 0 → Good ⟨true, [e]⟩
  | no : Good ⟨false, []⟩
  | all (es : List S_entry_Entry) : es.length = 8 → (∀ e ∈ es, chk e = 0) → (∃ e ∈ es, nn e = false) → Good ⟨false, es⟩
theorem good_of {nd : S_table_Node} (h : nc nd = 0) : Good nd := by
  obtain ⟨hu, es⟩ := nd
  unfold nc at h
  by_cases hf : fb ⟨hu, es⟩ = true
  · rw [if_pos hf] at h; omega
  rw [if_neg hf] at h
  by_cases hc : fc es = 0
  · rw [if_pos hc] at h
    have hall := fc_zero.1 hc
    unfold fb at hf
    cases hu
    · simp at hf
      by_cases he : es = []
      · subst he; exact .no
      · refine .all es (hf he) hall ?_
        have hp : 0 < es.length := List.length_pos_iff.2 he
        by_cases ha : es.all nn = true
        · rw [if_pos ⟨ha, hp⟩] at h; omega
        · rw [List.all_eq_true] at ha
          apply Classical.byContradiction
          intro hno
          apply ha
          intro x hx
          cases hnx : nn x with
          | true => rfl
          | false => exact absurd ⟨x, hx, hnx⟩ hno
    · rcases es with _ | ⟨e, _ | ⟨e2, es⟩⟩
      · simp at hf
      · simp at hf
        have hk := hall e (by simp)
        have := chk0 hk
        refine .huge e hf.1 ?_ hk
        rw [← rem_nn (by omega)]; exact hf.2
      · simp at hf
  · rw [if_neg hc] at h; exact absurd h hc
theorem nc_good {nd : S_table_Node} (h : Good nd) : nc nd = 0 := by
  cases h with
  | huge e h1 h2 h3 =>
    have := chk0 h3
    have hf : fb ⟨true, [e]⟩ = false := by unfold fb; simp [h1]; rw [rem_nn (by omega)]; exact h2
    have hc : fc [e] = 0 := by simp [fc, h3]
    have ha : [e].all nn = false := by simp [nn, h1]
    unfold nc
    rw [if_neg (by rw [hf]; decide), if_pos hc, if_neg (by rw [ha]; simp)]
  | no => rfl
  | all es h1 h2 h3 =>
    have hf : fb ⟨false, es⟩ = false := by unfold fb; simp [h1]
    have hc : fc es = 0 := fc_zero.2 h2
    have ha : ¬ es.all nn = true := by
      obtain ⟨e, h4, h5⟩ := h3
      intro h; rw [List.all_eq_true] at h; rw [h e h4] at h5; cases h5
    unfold nc
    rw [if_neg (by rw [hf]; decide), if_pos hc, if_neg (fun h => ha h.1)]
theorem good_len {nd : S_table_Node} (h : Good nd) : nd.fEntries.length ≤ 8 := by
  cases h with
  | huge e _ _ _ => simp
  | no => simp
  | all es h1 _ _ => simp [h1]
theorem chk_E0 : chk E0 = 0 := rfl
theorem chk_sh {e : S_entry_Entry} {k : Nat} (h1 : e.fHere = true) (h2 : e.fAt % 8 = 0) (h3 : chk e = 0) (hk : k < 8) : chk (sh e k) = 0 := by
  obtain ⟨a, b, c, d, f, g, i⟩ := e
  simp only at h1 h2
  have := chk0 h3
  simp only at this
  subst h1
  unfold chk at h3 ⊢
  unfold sh
  simp only at h3 ⊢
  rw [if_neg (by omega)] at h3 ⊢
  simpa using h3
theorem chk_at {nd : S_table_Node} (h : Good nd) {k : Nat} (hk : k < 8) : chk (atN nd k) = 0 := by
  cases h with
  | huge e h1 h2 h3 => exact chk_sh h1 h2 h3 hk
  | no => rfl
  | all es h1 h2 h3 =>
    unfold atN
    rw [if_neg (by simp), List.getD_eq_getElem?_getD, List.getElem?_eq_getElem (by simp; omega)]
    exact h2 _ (List.getElem_mem _)
theorem none_zero {e : S_entry_Entry} (h : chk e = 0) (hn : nn e = true) : e = E0 := by
  obtain ⟨a, b, c, d, f, g, i⟩ := e
  unfold nn at hn
  simp only at hn
  cases a <;> cases b <;> simp at hn
  unfold chk at h
  simp only at h
  split at h
  · omega
  · cases f <;> cases g <;> cases i <;> simp at h
    rw [h.1, h.2]
theorem at_any (n : Nat) {nd : S_table_Node} (h : Good nd) {k : Nat} (hk : k < 8) : G_table_at n nd (k : Int) = some (atN nd k) := by
  unfold G_table_at atN sh
  cases h with
  | huge e h1 h2 h3 =>
    have := chk0 h3
    have g0 : getI [e] 0 = some e := rfl
    simp only [if_true, g0, Option.bind_some, List.headD_cons]
    rw [wi64 (by omega) (by omega)]
  | no => simp
  | all es h1 h2 h3 =>
    have e1 : ¬ ((es.length : Int) = 0) := by omega
    simp only [Bool.false_eq_true, if_false]
    rw [if_neg e1, getI_nat, List.getElem?_eq_getElem (by omega), Option.bind_some, List.getD_eq_getElem?_getD, List.getElem?_eq_getElem (by omega)]
    rfl
/-- the eight entries of a node -/
def eight (nd : S_table_Node) : List S_entry_Entry := (List.range 8).map (atN nd)
theorem eight_len (nd : S_table_Node) : (eight nd).length = 8 := by simp [eight]
theorem eight_get {nd : S_table_Node} {k : Nat} (hk : k < 8) : (eight nd)[k]? = some (atN nd k) := by simp [eight, hk]
theorem eight_eq {nd : S_table_Node} {w : List S_entry_Entry} (hl : w.length = 8) (h : ∀ j, j < 8 → w[j]? = some (atN nd j)) : w = eight nd := by
  apply List.ext_getElem?
  intro j
  rcases Nat.lt_or_ge j 8 with hj | hj
  · rw [h j hj, eight_get hj]
  · rw [List.getElem?_eq_none (by omega), List.getElem?_eq_none (by rw [eight_len]; omega)]
theorem splith_l1 (n : Nat) (m : List S_entry_Entry) (nd : S_table_Node) (hg : Good nd) (hm : m.length = 8) : ∀ (k i : Nat) (w : List S_entry_Entry), 8 - i < k → i ≤ 8 → w.length = 8 → (∀ j, j < i → w[j]? = some (atN nd j)) →
    G_table_split_h_L1 n m nd k (i : Int) w = some (.x0 (eight nd))
  | 0, i, w, h, _, _, _ => by omega
  | k + 1, i, w, h, hi, hw, hj => by
    rw [G_table_split_h_L1]
    by_cases hlt : (i : Int) < (m.length : Int)
    · rw [if_pos hlt, at_any n hg (by omega), Option.bind_some, Int.toNat_natCast, if_pos ⟨by omega, by omega⟩, List.getElem?_eq_getElem (by omega), Option.bind_some, wi_succ (by omega)]
      refine splith_l1 n m nd hg hm k (i + 1) _ (by omega) (by omega) (by simpa using hw) (fun j hj' => ?_)
      rcases Nat.lt_or_ge j i with h' | h'
      · rw [List.getElem?_set_ne (by omega)]; exact hj j h'
      · have : j = i := by omega
        subst this; rw [List.getElem?_set_self (by omega)]
    · rw [if_neg hlt, eight_eq hw (fun j h' => hj j (by omega))]
theorem split_l1 (n : Nat) (m : List S_entry_Entry) (nd : S_table_Node) (hg : Good nd) (hm : m.length = 8) : ∀ (k i : Nat) (w : List S_entry_Entry), 8 - i < k → i ≤ 8 → w.length = 8 → (∀ j, j < i → w[j]? = some (atN nd j)) →
    G_table_split_L1 n m nd k (i : Int) w = some (.x0 (eight nd))
  | 0, i, w, h, _, _, _ => by omega
  | k + 1, i, w, h, hi, hw, hj => by
    rw [G_table_split_L1]
    by_cases hlt : (i : Int) < (m.length : Int)
    · rw [if_pos hlt, at_any n hg (by omega), Option.bind_some, Int.toNat_natCast, if_pos ⟨by omega, by omega⟩, List.getElem?_eq_getElem (by omega), Option.bind_some, wi_succ (by omega)]
      refine split_l1 n m nd hg hm k (i + 1) _ (by omega) (by omega) (by simpa using hw) (fun j hj' => ?_)
      rcases Nat.lt_or_ge j i with h' | h'
      · rw [List.getElem?_set_ne (by omega)]; exact hj j h'
      · have : j = i := by omega
        subst this; rw [List.getElem?_set_self (by omega)]
    · rw [if_neg hlt, eight_eq hw (fun j h' => hj j (by omega))]
theorem mk8 : mkL 32 E0 8 = some (List.replicate 8 E0) := by
  unfold mkL; rw [if_pos (by unfold maxLen; simp)]; rfl
theorem splith_any (n : Nat) {nd : S_table_Node} (hg : Good nd) (hn : 20 ≤ n) : G_table_split_h n nd = some ⟨false, eight nd⟩ := by
  unfold G_table_split_h
  have h : G_table_split_h_L1 n (List.replicate 8 E0) nd n 0 (List.replicate 8 E0) = some (.x0 (eight nd)) := splith_l1 n (List.replicate 8 E0) nd hg (by simp) n 0 _ (by omega) (by omega) (by simp) (fun j h => by omega)
  rw [mk8, Option.bind_some, h]; rfl
theorem split_any (n : Nat) {nd : S_table_Node} (hg : Good nd) (hn : 20 ≤ n) : G_table_split n nd = some ⟨false, eight nd⟩ := by
  unfold G_table_split
  have h : G_table_split_L1 n (List.replicate 8 E0) nd n 0 (List.replicate 8 E0) = some (.x0 (eight nd)) := split_l1 n (List.replicate 8 E0) nd hg (by simp) n 0 _ (by omega) (by omega) (by simp) (fun j h => by omega)
  rw [mk8, Option.bind_some, h]; rfl
/-- no entries, if there is none -/
def cln (nd : S_table_Node) : S_table_Node := if nd.fEntries.all nn = true then ⟨false, []⟩ else nd
theorem clean_l1 (n : Nat) (nd : S_table_Node) (hl : nd.fEntries.length ≤ 8) : ∀ (k i : Nat), nd.fEntries.length - i < k → i ≤ nd.fEntries.length →
    G_table_clean_L1 n nd k (i : Int) = some (if (nd.fEntries.drop i).all nn = true then .x1 else .x0)
  | 0, i, h, _ => by omega
  | k + 1, i, h, hi => by
    rw [G_table_clean_L1]
    by_cases hlt : (i : Int) < (nd.fEntries.length : Int)
    · obtain ⟨e, he⟩ := get_lt hlt
      rw [if_pos hlt, getI_nat, he, Option.bind_some, none_any, Option.bind_some, drop_cons he, List.all_cons]
      cases hx : nn e with
      | true => rw [if_pos rfl, wi_succ (by omega), clean_l1 n nd hl k (i + 1) (by omega) (by omega)]; simp
      | false => simp
    · rw [if_neg hlt, drop_end hlt]; simp
theorem clean_any (n : Nat) (nd : S_table_Node) (hl : nd.fEntries.length ≤ 8) (hn : 20 ≤ n) : G_table_clean n nd = some (cln nd) := by
  unfold G_table_clean cln
  have h := clean_l1 n nd hl n 0 (by omega) (by omega)
  rw [List.drop_zero] at h
  have h : G_table_clean_L1 n nd n 0 = _ := h
  rw [h, Option.bind_some]
  by_cases hx : nd.fEntries.all nn = true
  · rw [if_pos hx, if_pos hx]
  · rw [if_neg hx, if_neg hx]
/-- of eight entries that are right -/
theorem cln_good {es : List S_entry_Entry} (hl : es.length = 8) (h : ∀ e ∈ es, chk e = 0) : Good (cln ⟨false, es⟩) ∧ (cln ⟨false, es⟩).fHuge = false ∧ ∀ k, k < 8 → es[k]? = some (atN (cln ⟨false, es⟩) k) := by
  unfold cln
  by_cases hx : es.all nn = true
  · rw [if_pos hx]
    refine ⟨.no, rfl, fun k hk => ?_⟩
    rw [List.getElem?_eq_getElem (by omega)]
    have hm : es[k] ∈ es := List.getElem_mem _
    rw [none_zero (h _ hm) (List.all_eq_true.1 hx _ hm)]; rfl
  · rw [if_neg hx]
    refine ⟨.all es hl h ?_, rfl, fun k hk => ?_⟩
    · apply Classical.byContradiction
      intro hno
      apply hx
      rw [List.all_eq_true]
      intro x hx'
      cases hnx : nn x with
      | true => rfl
      | false => exact absurd ⟨x, hx', hnx⟩ hno
    · unfold atN
      rw [if_neg (by simp), List.getD_eq_getElem?_getD, List.getElem?_eq_getElem (by omega)]; rfl
/-- own: what it was -/
theorem own_l1 (n : Nat) (t : Fin 8 → S_table_Node) (hg : ∀ j, Good (t j)) : ∀ (k i : Nat), 8 - i < k → i ≤ 8 → G_table_own_L1 n t k (i : Int) t = some (.x0 t)
  | 0, i, h, _ => by omega
  | k + 1, i, h, hi => by
    rw [G_table_own_L1]
    by_cases hlt : (i : Int) < 8
    · have hi8 : i < 8 := by omega
      have hl := good_len (hg ⟨i, hi8⟩)
      have ha : app 32 [] (t ⟨i, hi8⟩).fEntries = some (t ⟨i, hi8⟩).fEntries := app_le (m := 100) (by simp; omega) (by omega) (by omega)
      rw [if_pos hlt, getA_at hi8, Option.bind_some, ha, Option.bind_some, if_pos ⟨by omega, hlt⟩, Option.bind_some, wi_succ (by omega)]
      have : setA t (i : Int) ⟨(t ⟨i, hi8⟩).fHuge, (t ⟨i, hi8⟩).fEntries⟩ = t := by
        funext j
        unfold setA
        split
        · rename_i e
          have : j = ⟨i, hi8⟩ := Fin.ext (by simpa using e)
          rw [this]
        · rfl
      rw [this]
      exact own_l1 n t hg k (i + 1) (by omega) (by omega)
    · rw [if_neg hlt]
theorem own_any (n : Nat) (t : Fin 8 → S_table_Node) (hg : ∀ j, Good (t j)) (hn : 20 ≤ n) : G_table_own n t = some t := by
  unfold G_table_own
  have h : G_table_own_L1 n t n 0 t = _ := own_l1 n t hg n 0 (by omega) (by omega)
  rw [h]; rfl
end Go.Proofs.Ytnmpnljjaoddhaa.tableTells
