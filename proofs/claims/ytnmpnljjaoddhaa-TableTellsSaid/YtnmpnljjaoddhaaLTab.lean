/- The plain law of TableTells: what is wrong with a table; the entry that stands for a page. -/
import Derived.Test.YtnmpnljjaoddhaaGuTableTells
import Derived.Test.YtnmpnljjaoddhaaLib
namespace Go.Proofs.Ytnmpnljjaoddhaa.tableTells
open Go.RowKit help rep pv
set_option linter.all false

def chk (e : S_entry_Entry) : Int :=
  if e.fRights < 0 ∨ 7 < e.fRights ∨ e.fAt < 0 ∨ 64 ≤ e.fAt then 1
  else if (e.fHere && e.fSlot) || (e.fDirty && !e.fHere) || (e.fUsed && !e.fHere) || (!e.fHere && !e.fSlot && (e.fCopy || e.fAt != 0 || e.fRights != 0)) then 3 else 0
theorem chk0 {e : S_entry_Entry} (hk : chk e = 0) : 0 ≤ e.fRights ∧ e.fRights ≤ 7 ∧ 0 ≤ e.fAt ∧ e.fAt ≤ 63 := by
  unfold chk at hk
  split at hk
  · cases hk
  · omega
theorem check_any (n : Nat) (e : S_entry_Entry) : G_entry_Check n e = some (chk e) := by
  obtain ⟨h, s, a, r, u, d, c⟩ := e
  unfold G_entry_Check G_entry_Check_C1 G_entry_Check_C2 G_entry_Check_C3 G_entry_None chk eqS_entry_Entry
  by_cases h1 : r < 0
  · simp [h1]
  by_cases h2 : r > 7
  · simp [h1, h2]
  by_cases h3 : a < 0
  · simp [h1, h2, h3]
  by_cases h4 : a ≥ 64
  · simp [h1, h2, h3, h4]
  have h5 : ¬ (r < 0 ∨ 7 < r ∨ a < 0 ∨ 64 ≤ a) := by omega
  rw [if_neg h5]
  simp only [h1, h2, h3, h4, if_false, Option.bind_some]
  cases h <;> cases s <;> cases u <;> cases d <;> cases c <;> simp [eqRes] <;> (try (by_cases e1 : a = 0 <;> by_cases e2 : r = 0 <;> simp [e1, e2]))
theorem entries_any (n : Nat) (e : S_entry_Entry) : G_ringref2_Entries n e = some (chk e) := by
  obtain ⟨h, s, a, r, u, d, c⟩ := e
  unfold G_ringref2_Entries G_ringref2_Entries_C1 G_ringref2_Entries_C2 G_ringref2_Entries_C3 G_ringref2_In chk
  by_cases h1 : r ≥ 0
  · by_cases h2 : r ≤ 7
    · by_cases h3 : a ≥ 0
      · by_cases h4 : a ≤ 63
        · have h5 : ¬ (r < 0 ∨ 7 < r ∨ a < 0 ∨ 64 ≤ a) := by omega
          rw [if_neg h5]
          simp only [h1, h2, h3, h4, if_true, Option.bind_some, decide_true, Bool.not_true]
          have e1 : (a > 0) = ¬ (a = 0) := by simp; omega
          have e2 : (r > 0) = ¬ (r = 0) := by simp; omega
          cases h <;> cases s <;> cases u <;> cases d <;> cases c <;> simp [e1, e2] <;> (try (by_cases e3 : a = 0 <;> by_cases e4 : r = 0 <;> simp [e3, e4]))
        · have h5 : r < 0 ∨ 7 < r ∨ a < 0 ∨ 64 ≤ a := by omega
          simp [h1, h2, h3, h4, if_pos h5]
      · have h5 : r < 0 ∨ 7 < r ∨ a < 0 ∨ 64 ≤ a := by omega
        simp [h1, h2, h3, if_pos h5]
    · have h5 : r < 0 ∨ 7 < r ∨ a < 0 ∨ 64 ≤ a := by omega
      simp [h1, h2, if_pos h5]
  · have h5 : r < 0 ∨ 7 < r ∨ a < 0 ∨ 64 ≤ a := by omega
    simp [h1, if_pos h5]
local notation "E0" => S_entry_Entry.mk false false 0 0 false false false
theorem getA_at {m : Nat} {β : Type} {A : Fin m → β} {j : Nat} (h : j < m) : getA A (j : Int) = some (A ⟨j, h⟩) := by
  unfold getA; rw [dif_pos (by omega)]; rfl
def nn (e : S_entry_Entry) : Bool := !e.fHere && !e.fSlot
theorem none_any (n : Nat) (e : S_entry_Entry) : G_entry_None n e = some (nn e) := by
  unfold G_entry_None nn
  cases e.fHere <;> simp
def fc : List S_entry_Entry → Int
  | [] => 0
  | e :: t => if chk e = 0 then fc t else chk e
theorem fc_zero : ∀ {l : List S_entry_Entry}, fc l = 0 ↔ ∀ e ∈ l, chk e = 0
  | [] => by simp [fc]
  | e :: t => by
    simp only [fc]
    by_cases h : chk e = 0
    · rw [if_pos h, fc_zero (l := t)]; simp [h]
    · rw [if_neg h]; simp [h]
theorem c_l4 (n : Nat) (t : Fin 8 → S_table_Node) (x : Int) (nd : S_table_Node) (hl : nd.fEntries.length ≤ 8) : ∀ (k i : Nat) (all : Bool), nd.fEntries.length - i < k → i ≤ nd.fEntries.length →
    G_table_Check_L4 n t x nd k all (i : Int) = some (if fc (nd.fEntries.drop i) = 0 then .x1 (all && (nd.fEntries.drop i).all nn) else .x0 (fc (nd.fEntries.drop i)))
  | 0, i, all, h, _ => by omega
  | k + 1, i, all, h, hi => by
    rw [G_table_Check_L4]
    by_cases hlt : (i : Int) < (nd.fEntries.length : Int)
    · obtain ⟨e, he⟩ := get_lt hlt
      rw [if_pos hlt, getI_nat, he, Option.bind_some, check_any, Option.bind_some, drop_cons he]
      by_cases h1 : chk e = 0
      · have hfc : fc (e :: nd.fEntries.drop (i + 1)) = fc (nd.fEntries.drop (i + 1)) := by simp [fc, h1]
        simp only [hfc]
        rw [if_pos h1, none_any, Option.bind_some, wi_succ (by omega), c_l4 n t x nd hl k (i + 1) (nn e) (by omega) (by omega), c_l4 n t x nd hl k (i + 1) false (by omega) (by omega)]
        cases all <;> simp
      · have hfc : fc (e :: nd.fEntries.drop (i + 1)) = chk e := by simp [fc, h1]
        simp only [hfc]
        rw [if_neg h1, if_neg h1]
    · rw [if_neg hlt, drop_end hlt]; simp [fc]
theorem t_l4 (n : Nat) (t : Fin 8 → S_table_Node) (x : Int) (nd : S_table_Node) (hl : nd.fEntries.length ≤ 8) : ∀ (k i : Nat) (sm : Bool), nd.fEntries.length - i < k → i ≤ nd.fEntries.length →
    G_ringref2_Tables_L4 n t x nd k sm (i : Int) = some (if fc (nd.fEntries.drop i) = 0 then .x1 (sm || !(nd.fEntries.drop i).all nn) else .x0 (fc (nd.fEntries.drop i)))
  | 0, i, sm, h, _ => by omega
  | k + 1, i, sm, h, hi => by
    rw [G_ringref2_Tables_L4]
    by_cases hlt : (i : Int) < (nd.fEntries.length : Int)
    · obtain ⟨e, he⟩ := get_lt hlt
      rw [if_pos hlt, getI_nat, he, Option.bind_some, entries_any, Option.bind_some, drop_cons he]
      by_cases h1 : chk e = 0
      · have hfc : fc (e :: nd.fEntries.drop (i + 1)) = fc (nd.fEntries.drop (i + 1)) := by simp [fc, h1]
        simp only [hfc]
        have h3 : G_ringref2_Tables_C3 n sm t x nd (i : Int) e = some (.x0 (sm || !nn e)) := by
          unfold G_ringref2_Tables_C3 nn
          cases sm <;> cases e.fHere <;> simp
        rw [if_pos h1, h3, Option.bind_some]
        dsimp only
        rw [wi_succ (by omega), t_l4 n t x nd hl k (i + 1) (sm || !nn e) (by omega) (by omega), List.all_cons]
        cases sm <;> cases nn e <;> simp
      · have hfc : fc (e :: nd.fEntries.drop (i + 1)) = chk e := by simp [fc, h1]
        simp only [hfc]
        rw [if_neg h1, if_neg h1]
    · rw [if_neg hlt, drop_end hlt]; simp [fc]
/-- a bad form -/
def fb (nd : S_table_Node) : Bool := if nd.fHuge = true then !(match nd.fEntries with | [e] => e.fHere && remI e.fAt 8 == 0 | _ => false) else !(nd.fEntries.length == 0 || nd.fEntries.length == 8)
theorem fb_len {nd : S_table_Node} (h : fb nd = false) : nd.fEntries.length ≤ 8 := by
  obtain ⟨hu, es⟩ := nd
  unfold fb at h
  cases hu
  · simp at h
    by_cases he : es = []
    · simp [he]
    · simp [h he]
  · rcases es with _ | ⟨e, _ | ⟨e2, es⟩⟩
    · simp
    · simp
    · simp at h
theorem c_form (n : Nat) (t : Fin 8 → S_table_Node) (x : Int) (nd : S_table_Node) : ∃ z, G_table_Check_C1 n t x nd = some (.x0 z) ∧ G_table_Check_C3 n t x z nd = some (.x0 (fb nd)) := by
  obtain ⟨hu, es⟩ := nd
  unfold G_table_Check_C1 G_table_Check_C3 G_table_Check_C2 fb G_table_huge
  cases hu
  · refine ⟨false, by simp, ?_⟩
    by_cases h1 : es.length = 0
    · simp [h1]
    · by_cases h2 : es.length = 8
      · simp [h2]
      · have e1 : ((es.length : Int) != 8) = true := by simp; omega
        have e3 : ¬ es = [] := fun e => h1 (by rw [e]; rfl)
        simp [h1, h2, e1, e3]
  · rcases es with _ | ⟨e, _ | ⟨e2, es⟩⟩
    · exact ⟨true, by simp, by simp⟩
    · have g0 : getI [e] 0 = some e := rfl
      by_cases h1 : e.fHere = true
      · by_cases h2 : remI e.fAt 8 = 0
        · exact ⟨false, by simp [g0, h1, h2], by simp [h1, h2]⟩
        · exact ⟨true, by simp [g0, h1, h2], by simp [h1, h2]⟩
      · exact ⟨true, by simp [g0, h1], by simp [h1]⟩
    · have e1 : ¬ (((e :: e2 :: es).length : Int) = 1) := by simp; omega
      exact ⟨true, by simp only [if_true]; rw [if_neg e1], by simp⟩
theorem t_form (n : Nat) (t : Fin 8 → S_table_Node) (x : Int) (nd : S_table_Node) : G_ringref2_Tables_C2 n t x nd = some (if fb nd = true then .x0 3 else .x1) := by
  obtain ⟨hu, es⟩ := nd
  unfold G_ringref2_Tables_C2 G_ringref2_Tables_C1 fb
  cases hu
  · by_cases h1 : es.length = 0
    · simp [h1]
    · by_cases h2 : es.length = 8
      · simp [h2]
      · have e1 : ¬ ((es.length : Int) = 8) := by omega
        have e2 : ¬ ((es.length : Int) = 0) := by omega
        have e3 : ¬ es = [] := fun e => h1 (by rw [e]; rfl)
        simp [h1, h2, e1, e2, e3]
  · rcases es with _ | ⟨e, _ | ⟨e2, es⟩⟩
    · simp
    · have g0 : getI [e] 0 = some e := rfl
      by_cases h1 : e.fHere = true
      · by_cases h2 : remI e.fAt 8 = 0
        · simp [g0, h1, h2]
        · simp [g0, h1, h2]
      · simp [g0, h1]
    · have e1 : ¬ (((e :: e2 :: es).length : Int) = 1) := by simp; omega
      simp only [if_true]; rw [if_neg e1]; simp
/-- what is wrong with a node -/
def nc (nd : S_table_Node) : Int := if fb nd = true then 3 else if fc nd.fEntries = 0 then (if nd.fEntries.all nn = true ∧ 0 < nd.fEntries.length then 3 else 0) else fc nd.fEntries
theorem l5 (n : Nat) (t : Fin 8 → S_table_Node) (hn : 20 ≤ n) : ∀ (k i : Nat), 8 - i < k → i ≤ 8 →
    ∃ r : Int, G_table_Check_L5 n t k (i : Int) = some (if r = 0 then .x1 else .x0 r) ∧ G_ringref2_Tables_L5 n t k (i : Int) = some (if r = 0 then .x1 else .x0 r) ∧ (r = 0 ↔ ∀ j : Fin 8, i ≤ j.val → nc (t j) = 0)
  | 0, i, h, _ => by omega
  | k + 1, i, h, hi => by
    rw [G_table_Check_L5, G_ringref2_Tables_L5]
    by_cases hlt : (i : Int) < 8
    · have hi8 : i < 8 := by omega
      obtain ⟨z, z1, z2⟩ := c_form n t (i : Int) (t ⟨i, hi8⟩)
      rw [if_pos hlt, if_pos hlt, getA_at hi8, Option.bind_some, Option.bind_some, z1, Option.bind_some]
      dsimp only
      rw [z2, Option.bind_some, t_form, Option.bind_some]
      dsimp only
      cases hf : fb (t ⟨i, hi8⟩) with
      | true =>
        refine ⟨3, by simp, by simp, fun h => by omega, fun h => ?_⟩
        have := h ⟨i, hi8⟩ (Nat.le_refl _)
        unfold nc at this; rw [if_pos hf] at this; exact this
      | false =>
        have hl := fb_len hf
        simp only [Bool.false_eq_true, if_false]
        try dsimp only
        have q1 := c_l4 n t (i : Int) (t ⟨i, hi8⟩) hl n 0 true (by omega) (by omega)
        have q2 := t_l4 n t (i : Int) (t ⟨i, hi8⟩) hl n 0 false (by omega) (by omega)
        simp only [List.drop_zero, Bool.true_and, Bool.false_or] at q1 q2
        have q1 : G_table_Check_L4 n t (i : Int) (t ⟨i, hi8⟩) n true 0 = _ := q1
        have q2 : G_ringref2_Tables_L4 n t (i : Int) (t ⟨i, hi8⟩) n false 0 = _ := q2
        rw [q1, q2, Option.bind_some, Option.bind_some]
        by_cases hc : fc (t ⟨i, hi8⟩).fEntries = 0
        · rw [if_pos hc, if_pos hc]
          dsimp only
          have hnc : nc (t ⟨i, hi8⟩) = if (t ⟨i, hi8⟩).fEntries.all nn = true ∧ 0 < (t ⟨i, hi8⟩).fEntries.length then 3 else 0 := by
            unfold nc; rw [if_neg (by rw [hf]; decide), if_pos hc]
          obtain ⟨r, r1, r2, r3⟩ := l5 n t hn k (i + 1) (by omega) (by omega)
          rw [wi_succ (by omega), r1, r2]
          have hgo : nc (t ⟨i, hi8⟩) = 0 → (r = 0 ↔ ∀ j : Fin 8, i ≤ j.val → nc (t j) = 0) := fun h0 => by
            rw [r3]
            refine ⟨fun h j hj => ?_, fun h j hj => h j (by omega)⟩
            rcases Nat.lt_or_ge i j.val with h' | h'
            · exact h j (by omega)
            · have : j = ⟨i, hi8⟩ := Fin.ext (show j.val = i by omega)
              rw [this]; exact h0
          by_cases ha : (t ⟨i, hi8⟩).fEntries.all nn = true
          · by_cases hp : ((t ⟨i, hi8⟩).fEntries.length : Int) > 0
            · refine ⟨3, by rw [if_pos ha, if_pos hp]; rfl, by rw [if_pos hp, ha]; rfl, fun h => by omega, fun h => ?_⟩
              have := h ⟨i, hi8⟩ (Nat.le_refl _)
              rw [hnc, if_pos ⟨ha, by omega⟩] at this; exact this
            · refine ⟨r, by rw [if_pos ha, if_neg hp], by rw [if_neg hp], hgo (by rw [hnc, if_neg (by omega)])⟩
          · refine ⟨r, by rw [if_neg ha], ?_, hgo (by rw [hnc, if_neg (fun h => ha h.1)])⟩
            have e : (!(t ⟨i, hi8⟩).fEntries.all nn) = true := by simpa using ha
            rw [e, if_pos rfl]; simp
        · refine ⟨fc (t ⟨i, hi8⟩).fEntries, by rw [if_neg hc, if_neg hc], by rw [if_neg hc, if_neg hc], fun h => absurd h hc, fun h => ?_⟩
          have := h ⟨i, hi8⟩ (Nat.le_refl _)
          unfold nc at this; rw [if_neg (by rw [hf]; decide), if_neg hc] at this; exact absurd this hc
    · rw [if_neg hlt, if_neg hlt]
      exact ⟨0, rfl, rfl, fun _ j hj => by have := j.isLt; omega, fun _ => rfl⟩
theorem tables_any (n : Nat) (t : Fin 8 → S_table_Node) (hn : 20 ≤ n) : ∃ r : Int, G_table_Check n t = some r ∧ G_ringref2_Tables n t = some r ∧ (r = 0 ↔ ∀ j, nc (t j) = 0) := by
  obtain ⟨r, r1, r2, r3⟩ := l5 n t hn n 0 (by omega) (by omega)
  have r1 : G_table_Check_L5 n t n 0 = _ := r1
  have r2 : G_ringref2_Tables_L5 n t n 0 = _ := r2
  refine ⟨r, ?_, ?_, by rw [r3]; exact ⟨fun h j => h j (Nat.zero_le _), fun h j _ => h j⟩⟩
  · unfold G_table_Check
    rw [r1, Option.bind_some]
    by_cases h : r = 0
    · rw [if_pos h, h]
    · rw [if_neg h]
  · unfold G_ringref2_Tables
    rw [r2, Option.bind_some]
    by_cases h : r = 0
    · rw [if_pos h, h]
    · rw [if_neg h]
end Go.Proofs.Ytnmpnljjaoddhaa.tableTells
