/- FaultTells returns true for every case and frame, and leaves its arguments alone. No condition. -/
import Derived.Test.YtccmjndnjpjohaaRGuFaultTells
import Derived.Test.YtccmjndnjpjohaaRMath
import Derived.ChangeOld
namespace Go.Proofs.YtccmjndnjpjohaaR.faultTells
open Go.ChangeShapes Go.WideShapes Go.ChangeAt Go.RowKit help rep pv
set_option linter.all false

def chk (e : S_entry_Entry) : Int :=
  if e.fRights < 0 ∨ 7 < e.fRights ∨ e.fAt < 0 ∨ 64 ≤ e.fAt then 1
  else if (e.fHere && e.fSlot) || (e.fDirty && !e.fHere) || (e.fUsed && !e.fHere) || (!e.fHere && !e.fSlot && (e.fCopy || e.fAt != 0 || e.fRights != 0)) then 3 else 0
theorem chk0 {e : S_entry_Entry} (hk : chk e = 0) : 0 ≤ e.fRights ∧ e.fRights ≤ 7 ∧ 0 ≤ e.fAt ∧ e.fAt ≤ 63 := by
  unfold chk at hk
  split at hk
  · cases hk
  · omega
theorem check_any (n : Nat) (e : S_entry_Entry) : G_entry_Check n e = some (chk e) := by
  obtain ⟨h, s, a, r, u, d, c⟩ := e
  unfold G_entry_Check G_entry_Check_C1 G_entry_Check_C2 G_entry_Check_C3 G_entry_None chk eqS_entry_Entry
  by_cases h1 : r < 0
  · simp [h1]
  by_cases h2 : r > 7
  · simp [h1, h2]
  by_cases h3 : a < 0
  · simp [h1, h2, h3]
  by_cases h4 : a ≥ 64
  · simp [h1, h2, h3, h4]
  have h5 : ¬ (r < 0 ∨ 7 < r ∨ a < 0 ∨ 64 ≤ a) := by omega
  rw [if_neg h5]
  simp only [h1, h2, h3, h4, if_false, Option.bind_some]
  cases h <;> cases s <;> cases u <;> cases d <;> cases c <;> simp [eqRes] <;> (try (by_cases e1 : a = 0 <;> by_cases e2 : r = 0 <;> simp [e1, e2]))
theorem entries_any (n : Nat) (e : S_entry_Entry) : G_ringref2_Entries n e = some (chk e) := by
  obtain ⟨h, s, a, r, u, d, c⟩ := e
  unfold G_ringref2_Entries G_ringref2_Entries_C1 G_ringref2_Entries_C2 G_ringref2_Entries_C3 G_ringref2_In chk
  by_cases h1 : r ≥ 0
  · by_cases h2 : r ≤ 7
    · by_cases h3 : a ≥ 0
      · by_cases h4 : a ≤ 63
        · have h5 : ¬ (r < 0 ∨ 7 < r ∨ a < 0 ∨ 64 ≤ a) := by omega
          rw [if_neg h5]
          simp only [h1, h2, h3, h4, if_true, Option.bind_some, decide_true, Bool.not_true]
          have e1 : (a > 0) = ¬ (a = 0) := by simp; omega
          have e2 : (r > 0) = ¬ (r = 0) := by simp; omega
          cases h <;> cases s <;> cases u <;> cases d <;> cases c <;> simp [e1, e2] <;> (try (by_cases e3 : a = 0 <;> by_cases e4 : r = 0 <;> simp [e3, e4]))
        · have h5 : r < 0 ∨ 7 < r ∨ a < 0 ∨ 64 ≤ a := by omega
          simp [h1, h2, h3, h4, if_pos h5]
      · have h5 : r < 0 ∨ 7 < r ∨ a < 0 ∨ 64 ≤ a := by omega
        simp [h1, h2, h3, if_pos h5]
    · have h5 : r < 0 ∨ 7 < r ∨ a < 0 ∨ 64 ≤ a := by omega
      simp [h1, h2, if_pos h5]
  · have h5 : r < 0 ∨ 7 < r ∨ a < 0 ∨ 64 ≤ a := by omega
    simp [h1, if_pos h5]
def has (r q : Int) : Bool := (q % 2 != 1 || r % 2 != 0) && (q / 2 % 2 != 1 || r / 2 % 2 != 0) && (q / 4 % 2 != 1 || r / 4 % 2 != 0)
theorem has_nat : ∀ R, R < 8 → ∀ Q, Q < 8 → ((((R &&& Q : Nat) : Int) == ((Q : Nat) : Int)) = has R Q ∧ ((((Q &&& 2 : Nat) : Int) == 0) = !((Q : Int) / 2 % 2 == 1))) := by decide +kernel
theorem has_bits (r q : Int) (h1 : 0 ≤ r) (h2 : r ≤ 7) (h3 : 0 ≤ q) (h4 : q ≤ 7) : (bits .and .i64 r q == q) = has r q ∧ (bits .and .i64 q 2 == 0) = !(q / 2 % 2 == 1) := by
  obtain ⟨R, rfl⟩ := Int.eq_ofNat_of_zero_le h1
  obtain ⟨Q, rfl⟩ := Int.eq_ofNat_of_zero_le h3
  have := has_nat R (by omega) Q (by omega)
  rw [i64_and_nat _ _ (by omega) (by omega), show (2 : Int) = ((2 : Nat) : Int) from rfl, i64_and_nat _ _ (by omega) (by omega)]
  exact this
theorem has_fin : ∀ R, R < 8 → ∀ Q, Q < 8 → G_ringref2_Has 20 ((R : Nat) : Int) ((Q : Nat) : Int) = some (has R Q) := by decide +kernel
theorem has_any (r q : Int) (h1 : 0 ≤ r) (h2 : r ≤ 7) (h3 : 0 ≤ q) (h4 : q ≤ 7) : G_ringref2_Has 20 r q = some (has r q) := by
  obtain ⟨R, rfl⟩ := Int.eq_ofNat_of_zero_le h1
  obtain ⟨Q, rfl⟩ := Int.eq_ofNat_of_zero_le h3
  exact has_fin R (by omega) Q (by omega)
theorem equal_loop (n : Nat) (l : List Int) (hl : l.length < 1000000) : ∀ (k i : Nat), l.length - i < k → i ≤ l.length → G_slices_Equal_int_int_L1 n l l k (i : Int) = some .x1
  | 0, i, h, _ => by omega
  | k + 1, i, h, hi => by
    rw [G_slices_Equal_int_int_L1]
    by_cases hlt : (i : Int) < (l.length : Int)
    · obtain ⟨x, hx⟩ := get_lt hlt
      rw [if_pos hlt, getI_nat, hx, Option.bind_some, Option.bind_some, if_pos rfl, wi_succ (by omega)]
      exact equal_loop n l hl k (i + 1) (by omega) (by omega)
    · rw [if_neg hlt]
theorem equal_self (n : Nat) (l : List Int) (hl : l.length < 1000000) (hn : l.length < n) : G_slices_Equal_int_int n l l = some true := by
  unfold G_slices_Equal_int_int
  have := equal_loop n l hl n 0 (by omega) (by omega)
  have : G_slices_Equal_int_int_L1 n l l n 0 = some .x1 := this
  rw [if_pos rfl, this]; rfl
def nn (e : S_entry_Entry) : Bool := !e.fHere && !e.fSlot
theorem none_any (n : Nat) (e : S_entry_Entry) : G_entry_None n e = some (nn e) := by
  unfold G_entry_None nn; cases e.fHere <;> simp
def fchk (c : S_fault_Case) : Int :=
  if c.fArea < -1 ∨ 7 < c.fArea ∨ c.fWant < 1 ∨ 7 < c.fWant then 1
  else if chk c.fEntry ≠ 0 then chk c.fEntry
  else if c.fMany < 0 ∨ (nn c.fEntry ≠ (c.fMany == 0)) ∨ (c.fArea < 0 ∧ nn c.fEntry = false) then 3 else 0
theorem fcheck_any (n : Nat) (c : S_fault_Case) : G_fault_Check n c = some (fchk c) := by
  unfold G_fault_Check G_fault_Check_C1 G_fault_Check_C2 fchk
  by_cases h1 : c.fArea < -1
  · simp [h1]
  by_cases h2 : c.fArea > 7
  · simp [h1, h2]
  by_cases h3 : c.fWant < 1
  · simp [h1, h2, h3]
  by_cases h4 : c.fWant > 7
  · simp [h1, h2, h3, h4]
  have h5 : ¬ (c.fArea < -1 ∨ 7 < c.fArea ∨ c.fWant < 1 ∨ 7 < c.fWant) := by omega
  rw [if_neg h5]
  simp only [h1, h2, h3, h4, if_false, Option.bind_some, decide_false, Bool.false_eq_true, check_any, none_any]
  by_cases h6 : chk c.fEntry = 0
  · simp only [h6, if_true, ne_eq, not_true, if_false]
    by_cases h7 : c.fMany < 0
    · simp [h7]
    · simp only [h7, if_false, false_or]
      cases hn : nn c.fEntry <;> by_cases h8 : c.fMany = 0 <;> by_cases h9 : c.fArea < 0 <;> simp [h8, h9, eqRes]
  · simp [h6]
theorem faults_any (n : Nat) (c : S_fault_Case) : G_ringref2_Faults n c = some (fchk c) := by
  unfold G_ringref2_Faults G_ringref2_Faults_C1 G_ringref2_Faults_C2 G_ringref2_Faults_C3 G_ringref2_In fchk
  by_cases h1 : c.fArea ≥ -1
  · by_cases h2 : c.fArea ≤ 7
    · by_cases h3 : c.fWant ≥ 1
      · by_cases h4 : c.fWant ≤ 7
        · have h5 : ¬ (c.fArea < -1 ∨ 7 < c.fArea ∨ c.fWant < 1 ∨ 7 < c.fWant) := by omega
          rw [if_neg h5]
          simp only [h1, h2, h3, h4, if_true, Option.bind_some, decide_true, Bool.not_true, Bool.false_eq_true, if_false, entries_any]
          by_cases h6 : chk c.fEntry = 0
          · simp only [h6, if_true, ne_eq, not_true, if_false]
            have hn : (if c.fEntry.fHere = true then some (G_ringref2_Faults_C2_R.x0 false) else some (.x0 (!c.fEntry.fSlot))) = some (.x0 (nn c.fEntry)) := by
              unfold nn; cases c.fEntry.fHere <;> simp
            rw [hn]
            simp only [Option.bind_some]
            have e9 : (c.fArea = -1) = (c.fArea < 0) := by simp; omega
            simp only [e9]
            by_cases h7 : c.fMany < 0
            · simp [h7]
            · simp only [h7, if_false, false_or]
              cases hn : nn c.fEntry <;> by_cases h8 : c.fMany = 0 <;> by_cases h9 : c.fArea < 0 <;> simp [h8, h9]
          · simp [h6]
        · have h5 : c.fArea < -1 ∨ 7 < c.fArea ∨ c.fWant < 1 ∨ 7 < c.fWant := by omega
          simp [h1, h2, h3, h4, if_pos h5]
      · have h5 : c.fArea < -1 ∨ 7 < c.fArea ∨ c.fWant < 1 ∨ 7 < c.fWant := by omega
        simp [h1, h2, h3, if_pos h5]
    · have h5 : c.fArea < -1 ∨ 7 < c.fArea ∨ c.fWant < 1 ∨ 7 < c.fWant := by omega
      simp [h1, h2, if_pos h5]
  · have h5 : c.fArea < -1 ∨ 7 < c.fArea ∨ c.fWant < 1 ∨ 7 < c.fWant := by omega
    simp [h1, if_pos h5]
/-- a case that is right -/
structure Ok (c : S_fault_Case) : Prop where
  a1 : -1 ≤ c.fArea
  a2 : c.fArea ≤ 7
  w1 : 1 ≤ c.fWant
  w2 : c.fWant ≤ 7
  e : chk c.fEntry = 0
  m : 0 ≤ c.fMany
  nm : nn c.fEntry = (c.fMany == 0)
  ar : c.fArea < 0 → nn c.fEntry = true
theorem ok_of {c : S_fault_Case} (h : fchk c = 0) : Ok c := by
  unfold fchk at h
  split at h
  · cases h
  · split at h
    · rename_i h1 h2; exact absurd h h2
    · split at h
      · cases h
      · rename_i h1 h2 h3
        simp only [not_or, not_and, Classical.not_not] at h1 h2 h3
        exact ⟨by omega, by omega, by omega, by omega, h2, by omega, h3.2.1, fun q => by have := h3.2.2 q; simpa using this⟩
theorem of_ok {c : S_fault_Case} (h : Ok c) : fchk c = 0 := by
  have h1 := h.a1; have h2 := h.a2; have h3 := h.w1; have h4 := h.w2; have h5 := h.m
  unfold fchk
  rw [if_neg (by omega), if_neg (by rw [h.e]; simp), if_neg]
  rintro (q | q | q)
  · omega
  · exact q h.nm
  · have := h.ar q.1; rw [this] at q; cases q.2
def dof (c : S_fault_Case) : Int :=
  if c.fArea < 0 ∨ has c.fArea c.fWant = false then 1
  else if nn c.fEntry then 2
  else if c.fEntry.fSlot then 3
  else if c.fEntry.fRights ≠ c.fArea then 6
  else if (c.fWant / 2 % 2 == 1) && c.fEntry.fCopy then (if c.fMany > 1 then 4 else 5)
  else 0
theorem do_any (c : S_fault_Case) : G_fault_Do 20 c = some (if fchk c = 0 then (dof c, 0) else (0, fchk c)) := by
  unfold G_fault_Do G_fault_Do_C1 G_fault_Do_C2 dof
  rw [fcheck_any, Option.bind_some]
  by_cases hc : fchk c = 0
  · have ok := ok_of hc
    have hw1 := ok.w1; have hw2 := ok.w2; have ha2 := ok.a2
    rw [if_pos hc, if_pos hc]
    by_cases ha : c.fArea < 0
    · simp [ha]
    · obtain ⟨b1, _⟩ := has_bits c.fArea c.fWant (by omega) (by omega) (by omega) (by omega)
      obtain ⟨_, b2⟩ := has_bits 0 c.fWant (by omega) (by omega) (by omega) (by omega)
      have b3 : (bits .and .i64 c.fArea c.fWant != c.fWant) = !(has c.fArea c.fWant) := by rw [bne, b1]
      have b4 : (bits .and .i64 c.fWant 2 = 0) = ((c.fWant / 2 % 2 == 1) = false) := by
        have : (bits .and .i64 c.fWant 2 = 0) = ((bits .and .i64 c.fWant 2 == 0) = true) := by simp
        rw [this, b2]; simp
      simp only [ha, if_false, false_or, b3, b4, Option.bind_some, none_any]
      cases hh : has c.fArea c.fWant
      · simp
      · simp only [Bool.not_true, Bool.false_eq_true, if_false]
        cases hn : nn c.fEntry
        · cases hs : c.fEntry.fSlot
          · by_cases hr : c.fEntry.fRights = c.fArea
            · cases hw : (c.fWant / 2 % 2 == 1) <;> cases hp : c.fEntry.fCopy <;> by_cases hm : c.fMany > 1 <;> simp [hr, hm]
            · simp [hr]
          · simp
        · simp
  · rw [if_neg hc, if_neg hc]
theorem wr_nat : ∀ Q, Q < 8 → (decide (((Q : Nat) : Int) = 2) || decide (((Q : Nat) : Int) = 3) || decide (((Q : Nat) : Int) > 5)) = ((Q : Int) / 2 % 2 == 1) := by decide +kernel
theorem first_loop : ∀ a b c d e f g : Bool, G_ringref2_FaultDo_L4 20 (fun i : Fin 7 => [a, b, c, d, e, f, g].get i) 20 0 = some (if a then .x0 0 else if b then .x0 1 else if c then .x0 2 else if d then .x0 3 else if e then .x0 4 else if f then .x0 5 else if g then .x0 6 else .x1) := by
  intro a b c d e f g
  cases a <;> cases b <;> cases c <;> cases d <;> cases e <;> cases f <;> cases g <;> rfl
theorem rdo_any (c : S_fault_Case) (ok : Ok c) : G_ringref2_FaultDo 20 c = some (dof c) := by
  have hw1 := ok.w1; have hw2 := ok.w2; have ha2 := ok.a2; have hm0 := ok.m
  unfold G_ringref2_FaultDo
  have z1 : G_ringref2_FaultDo_C1 20 c = some (.x0 (c.fWant / 2 % 2 == 1)) := by
    obtain ⟨Q, hQ⟩ := Int.eq_ofNat_of_zero_le (show 0 ≤ c.fWant by omega)
    have := wr_nat Q (by omega)
    rw [← hQ] at this
    rw [← this]
    unfold G_ringref2_FaultDo_C1
    by_cases e2 : c.fWant = 2 <;> by_cases e3 : c.fWant = 3 <;> simp [e2, e3]
  rw [z1, Option.bind_some]
  by_cases ha : c.fArea < 0
  · have z2 : G_ringref2_FaultDo_C2 20 (c.fWant / 2 % 2 == 1) c = some (.x0 false) := by
      unfold G_ringref2_FaultDo_C2; rw [if_neg (by omega)]
    simp only [z2, Option.bind_some, G_ringref2_FaultDo_C3, Bool.false_eq_true, if_false, first_loop]
    simp [dof, ha]
  · have z2 : G_ringref2_FaultDo_C2 20 (c.fWant / 2 % 2 == 1) c = some (.x0 (has c.fArea c.fWant)) := by
      unfold G_ringref2_FaultDo_C2; rw [if_pos (by omega), has_any _ _ (by omega) (by omega) (by omega) (by omega)]; rfl
    simp only [z2, Option.bind_some, G_ringref2_FaultDo_C3]
    have hnm := ok.nm
    unfold dof
    have hne : ¬ (c.fMany > 1) → nn c.fEntry = false → (c.fMany == 1) = true := by
      intro h1 h2
      rw [h2] at hnm
      have : c.fMany ≠ 0 := by intro e; rw [e] at hnm; simp at hnm
      simp; omega
    have hch := ok.e
    have hhs : c.fEntry.fHere = true → c.fEntry.fSlot = false := by
      intro h1
      unfold chk at hch
      split at hch
      · cases hch
      · cases hs : c.fEntry.fSlot
        · rfl
        · simp [h1, hs] at hch
    cases hh : has c.fArea c.fWant
    · simp only [Bool.false_eq_true, if_false, Option.bind_some, first_loop]
      simp [ha]
    · cases hhe : c.fEntry.fHere
      · simp only [Bool.false_eq_true, if_true, if_false, Option.bind_some, first_loop]
        cases hs : c.fEntry.fSlot <;> simp [ha, nn, hhe, hs]
      · have hs := hhs hhe
        have hn : nn c.fEntry = false := by simp [nn, hhe]
        by_cases hr : c.fEntry.fRights = c.fArea
        · cases hw : (c.fWant / 2 % 2 == 1) <;> cases hp : c.fEntry.fCopy <;> simp only [hr, eq_self, Bool.false_eq_true, if_true, if_false, Option.bind_some, first_loop]
          · simp [ha, hn, hs]
          · simp [ha, hn, hs]
          · simp [ha, hn, hs]
          · by_cases hm : c.fMany > 1
            · simp [ha, hn, hs, hm]
            · have := hne hm hn
              simp [ha, hn, hs, hm, this]
        · simp only [hr, Bool.false_eq_true, if_true, if_false, Option.bind_some, first_loop]
          simp [ha, hn, hs, hr]
def aft (c : S_fault_Case) (f : Int) : S_fault_Case :=
  if dof c = 2 then ⟨c.fArea, ⟨true, false, f, c.fArea, false, false, false⟩, 1, c.fWant⟩
  else if dof c = 3 then ⟨c.fArea, ⟨true, false, f, c.fEntry.fRights, c.fEntry.fUsed, c.fEntry.fDirty, c.fEntry.fCopy⟩, c.fMany, c.fWant⟩
  else if dof c = 4 then ⟨c.fArea, ⟨c.fEntry.fHere, c.fEntry.fSlot, f, c.fEntry.fRights, c.fEntry.fUsed, true, false⟩, 1, c.fWant⟩
  else if dof c = 5 then ⟨c.fArea, ⟨c.fEntry.fHere, c.fEntry.fSlot, c.fEntry.fAt, c.fEntry.fRights, c.fEntry.fUsed, c.fEntry.fDirty, false⟩, c.fMany, c.fWant⟩
  else if dof c = 6 then ⟨c.fArea, ⟨c.fEntry.fHere, c.fEntry.fSlot, c.fEntry.fAt, c.fArea, c.fEntry.fUsed, c.fEntry.fDirty, c.fEntry.fCopy⟩, c.fMany, c.fWant⟩
  else c
def zc : S_fault_Case := ⟨0, ⟨false, false, 0, 0, false, false, false⟩, 0, 0⟩
theorem after_any (c : S_fault_Case) (f : Int) : G_fault_After 20 c f = some (if fchk c = 0 then (if f < 0 ∨ 64 ≤ f then (zc, 1) else if dof c = 1 then (zc, 11) else (aft c f, 0)) else (zc, fchk c)) := by
  unfold G_fault_After G_fault_After_C2 G_fault_After_C1 aft
  rw [do_any, Option.bind_some]
  by_cases hc : fchk c = 0
  · simp only [if_pos hc, if_true]
    by_cases h1 : f < 0
    · simp [h1]; rfl
    by_cases h2 : f ≥ 64
    · simp [h1, h2]; rfl
    have h3 : ¬ (f < 0 ∨ 64 ≤ f) := by omega
    rw [if_neg h3]
    simp only [h1, h2, if_false]
    by_cases d1 : dof c = 1
    · simp [d1]; rfl
    simp only [d1, if_false]
    by_cases d2 : dof c = 2
    · simp [d2]
    by_cases d3 : dof c = 3
    · simp [d3]
    by_cases d4 : dof c = 4
    · simp [d4]
    by_cases d5 : dof c = 5
    · simp [d5]
    by_cases d6 : dof c = 6
    · simp [d6]
    simp [d2, d3, d4, d5, d6]
  · simp only [if_neg hc]
    rfl
theorem chk_cases {e : S_entry_Entry} (h : chk e = 0) : 0 ≤ e.fRights ∧ e.fRights ≤ 7 ∧ 0 ≤ e.fAt ∧ e.fAt ≤ 63 ∧ (e.fHere && e.fSlot) = false ∧ (e.fDirty && !e.fHere) = false ∧ (e.fUsed && !e.fHere) = false := by
  obtain ⟨h1, h2, h3, h4⟩ := chk0 h
  unfold chk at h
  rw [if_neg (by omega)] at h
  refine ⟨h1, h2, h3, h4, ?_⟩
  revert h
  cases e.fHere <;> cases e.fSlot <;> cases e.fDirty <;> cases e.fUsed <;> simp
theorem chk_of {e : S_entry_Entry} (h1 : 0 ≤ e.fRights) (h2 : e.fRights ≤ 7) (h3 : 0 ≤ e.fAt) (h4 : e.fAt ≤ 63) (h5 : e.fHere = true) (h6 : e.fSlot = false) : chk e = 0 := by
  unfold chk
  rw [if_neg (by omega)]
  simp [h5, h6]
/-- what is done, by what there is -/
theorem dof_cases (c : S_fault_Case) (ok : Ok c) : dof c = 0 ∨ dof c = 1 ∨ (0 ≤ c.fArea ∧ has c.fArea c.fWant = true ∧ (
    (dof c = 2) ∨ (dof c = 3 ∧ c.fEntry.fSlot = true ∧ c.fEntry.fHere = false ∧ c.fEntry.fUsed = false ∧ c.fEntry.fDirty = false ∧ c.fMany ≠ 0) ∨
    ((dof c = 4 ∨ dof c = 5 ∨ dof c = 6) ∧ c.fEntry.fSlot = false ∧ c.fEntry.fHere = true ∧ c.fMany ≠ 0))) := by
  obtain ⟨h1, h2, h3, h4, h5, h6, h7⟩ := chk_cases ok.e
  have hnm := ok.nm
  by_cases ha : c.fArea < 0 ∨ has c.fArea c.fWant = false
  · right; left; unfold dof; rw [if_pos ha]
  · have hA : 0 ≤ c.fArea := by omega
    have hH : has c.fArea c.fWant = true := by
      cases hh : has c.fArea c.fWant
      · exact absurd (.inr hh) ha
      · rfl
    cases hn : nn c.fEntry
    · have hm : c.fMany ≠ 0 := by intro e; rw [hn, e] at hnm; simp at hnm
      cases hs : c.fEntry.fSlot
      · have hh : c.fEntry.fHere = true := by unfold nn at hn; rw [hs] at hn; simpa using hn
        by_cases hr : c.fEntry.fRights = c.fArea
        · cases hw : ((c.fWant / 2 % 2 == 1) && c.fEntry.fCopy)
          · left; unfold dof; rw [if_neg ha, if_neg (by simp [hn]), if_neg (by simp [hs]), if_neg (by simp [hr]), if_neg (by simp [hw])]
          · right; right
            refine ⟨hA, hH, .inr (.inr ⟨?_, rfl, hh, hm⟩)⟩
            unfold dof; rw [if_neg ha, if_neg (by simp [hn]), if_neg (by simp [hs]), if_neg (by simp [hr]), if_pos hw]
            split
            · left; rfl
            · right; left; rfl
        · right; right
          refine ⟨hA, hH, .inr (.inr ⟨?_, rfl, hh, hm⟩)⟩
          right; right
          unfold dof; rw [if_neg ha, if_neg (by simp [hn]), if_neg (by simp [hs]), if_pos hr]
      · have hh : c.fEntry.fHere = false := by rw [hs] at h5; simpa using h5
        rw [hh] at h6 h7
        right; right
        refine ⟨hA, hH, .inr (.inl ⟨?_, rfl, hh, by simpa using h7, by simpa using h6, hm⟩)⟩
        unfold dof; rw [if_neg ha, if_neg (by simp [hn]), if_pos hs]
    · right; right
      refine ⟨hA, hH, .inl ?_⟩
      unfold dof; rw [if_neg ha, if_pos hn]
theorem dof_here (c : S_fault_Case) (hA : 0 ≤ c.fArea) (hH : has c.fArea c.fWant = true) (h1 : c.fEntry.fHere = true) (h2 : c.fEntry.fSlot = false) :
    dof c = if c.fEntry.fRights ≠ c.fArea then 6 else if (c.fWant / 2 % 2 == 1) && c.fEntry.fCopy then (if c.fMany > 1 then 4 else 5) else 0 := by
  unfold dof
  rw [if_neg (by simp [hH]; omega), if_neg (by simp [nn, h1]), if_neg (by simp [h2])]
def rank (d : Int) : Nat := if d = 3 then 3 else if d = 6 then 2 else if d = 0 ∨ d = 1 then 0 else 1
theorem aft_ok (c : S_fault_Case) (f : Int) (f0 : 0 ≤ f) (f1 : f < 64) (ok : Ok c) (d0 : dof c ≠ 0) (d1 : dof c ≠ 1) : Ok (aft c f) ∧ rank (dof (aft c f)) < rank (dof c) := by
  obtain ⟨h1, h2, h3, h4, h5, h6, h7⟩ := chk_cases ok.e
  have ha2 := ok.a2; have hw1 := ok.w1; have hw2 := ok.w2; have hm0 := ok.m
  rcases dof_cases c ok with e | e | ⟨hA, hH, e | ⟨e, s1, s2, s3, s4, s5⟩ | ⟨e, s1, s2, s3⟩⟩
  · exact absurd e d0
  · exact absurd e d1
  · have ea : aft c f = ⟨c.fArea, ⟨true, false, f, c.fArea, false, false, false⟩, 1, c.fWant⟩ := by unfold aft; rw [if_pos e]
    rw [ea]
    refine ⟨⟨by simp; omega, ha2, hw1, hw2, chk_of hA ha2 f0 (by simp; omega) rfl rfl, by simp, by simp [nn], by simp; omega⟩, ?_⟩
    rw [dof_here ⟨c.fArea, ⟨true, false, f, c.fArea, false, false, false⟩, 1, c.fWant⟩ hA hH rfl rfl, e]
    simp [rank]
  · have ea : aft c f = ⟨c.fArea, ⟨true, false, f, c.fEntry.fRights, c.fEntry.fUsed, c.fEntry.fDirty, c.fEntry.fCopy⟩, c.fMany, c.fWant⟩ := by unfold aft; rw [if_neg (by omega), if_pos e]
    rw [ea]
    refine ⟨⟨by simp; omega, ha2, hw1, hw2, chk_of h1 h2 f0 (by simp; omega) rfl rfl, hm0, by simp [nn, s5], by simp; omega⟩, ?_⟩
    rw [dof_here ⟨c.fArea, ⟨true, false, f, c.fEntry.fRights, c.fEntry.fUsed, c.fEntry.fDirty, c.fEntry.fCopy⟩, c.fMany, c.fWant⟩ hA hH rfl rfl, e]
    simp only [rank]
    split
    · simp
    · split
      · split <;> simp
      · simp
  · have hk : ∀ (a r : Int) (u d p : Bool) (m : Int), 0 ≤ a → a ≤ 63 → 0 ≤ r → r ≤ 7 → 0 < m → Ok ⟨c.fArea, ⟨c.fEntry.fHere, c.fEntry.fSlot, a, r, u, d, p⟩, m, c.fWant⟩ := by
      intro a r u d p m q1 q2 q3 q4 q5
      refine ⟨by simp; omega, ha2, hw1, hw2, chk_of q3 q4 q1 q2 s2 s1, by simp; omega, ?_, by simp; omega⟩
      have : ¬ m = 0 := by omega
      simp [nn, s2, this]
    have hd : ∀ (a r : Int) (u d p : Bool) (m : Int), dof ⟨c.fArea, ⟨c.fEntry.fHere, c.fEntry.fSlot, a, r, u, d, p⟩, m, c.fWant⟩ = if r ≠ c.fArea then 6 else if (c.fWant / 2 % 2 == 1) && p then (if m > 1 then 4 else 5) else 0 :=
      fun a r u d p m => dof_here _ hA hH s2 s1
    have hc := dof_here c hA hH s2 s1
    rcases e with e | e | e
    · have ea : aft c f = ⟨c.fArea, ⟨c.fEntry.fHere, c.fEntry.fSlot, f, c.fEntry.fRights, c.fEntry.fUsed, true, false⟩, 1, c.fWant⟩ := by unfold aft; rw [if_neg (by omega), if_neg (by omega), if_pos e]
      rw [ea]
      refine ⟨hk _ _ _ _ _ _ f0 (by omega) h1 h2 (by omega), ?_⟩
      have hr : c.fEntry.fRights = c.fArea := by
        rw [e] at hc
        split at hc
        · cases hc
        · rename_i q; simpa using q
      rw [hd, e]
      simp [rank, hr]
    · have ea : aft c f = ⟨c.fArea, ⟨c.fEntry.fHere, c.fEntry.fSlot, c.fEntry.fAt, c.fEntry.fRights, c.fEntry.fUsed, c.fEntry.fDirty, false⟩, c.fMany, c.fWant⟩ := by unfold aft; rw [if_neg (by omega), if_neg (by omega), if_neg (by omega), if_pos e]
      rw [ea]
      refine ⟨hk _ _ _ _ _ _ h3 h4 h1 h2 (by omega), ?_⟩
      have hr : c.fEntry.fRights = c.fArea := by
        rw [e] at hc
        split at hc
        · cases hc
        · rename_i q; simpa using q
      rw [hd, e]
      simp [rank, hr]
    · have ea : aft c f = ⟨c.fArea, ⟨c.fEntry.fHere, c.fEntry.fSlot, c.fEntry.fAt, c.fArea, c.fEntry.fUsed, c.fEntry.fDirty, c.fEntry.fCopy⟩, c.fMany, c.fWant⟩ := by unfold aft; rw [if_neg (by omega), if_neg (by omega), if_neg (by omega), if_neg (by omega), if_pos e]
      rw [ea]
      refine ⟨hk _ _ _ _ _ _ h3 h4 hA ha2 (by omega), ?_⟩
      rw [hd, e]
      simp only [rank]
      simp only [ne_eq, not_true, if_false]
      split
      · split <;> simp
      · simp
theorem rafter_any (c : S_fault_Case) (f : Int) (ok : Ok c) (d1 : dof c ≠ 1) : G_ringref2_FaultAfter 20 c f = some (aft c f) := by
  unfold G_ringref2_FaultAfter G_ringref2_FaultAfter_C2 G_ringref2_FaultAfter_C1
  rw [rdo_any c ok, Option.bind_some]
  rcases dof_cases c ok with e | e | ⟨hA, hH, e | ⟨e, s1, s2, s3, s4, s5⟩ | ⟨e, s1, s2, s3⟩⟩
  · simp [aft, e]
  · exact absurd e d1
  · simp [aft, e]
  · simp [aft, e, s3, s4]
  · rcases e with e | e | e <;> simp [aft, e, s1, s2]
/-- all that is done, and what there is then -/
theorem loops (f : Int) (f0 : 0 ≤ f) (f1 : f < 64) (r : List Int × S_fault_Case × Int) : ∀ (m : Nat) (c : S_fault_Case) (w : List Int) (k k' : Nat) (i : Nat), Ok c → rank (dof c) ≤ m → m < k → m < k' → i + m < 6 → w.length ≤ i →
    ∃ o z, G_fault_Steps_L1 20 f k c w = some (.x0 0 o z) ∧ G_ringlaw2_FaultTells_L4 20 f r k' (i : Int) w c = some (.x0 o z) ∧ o.length ≤ 7
  | m, c, w, 0, k', i, ok, hr, hk, hk', hi, hw => by omega
  | m, c, w, k + 1, 0, i, ok, hr, hk, hk', hi, hw => by omega
  | m, c, w, k + 1, k' + 1, i, ok, hr, hk, hk', hi, hw => by
    rw [G_fault_Steps_L1, G_ringlaw2_FaultTells_L4]
    have ha : app 8 w [dof c] = some (w ++ [dof c]) := app_some (by simp; omega) (by omega)
    rw [if_pos (by omega), do_any, if_pos (of_ok ok), rdo_any c ok]
    simp only [Option.bind_some, ha]
    by_cases d0 : dof c = 0
    · rw [if_pos d0, if_pos d0]
      exact ⟨_, _, rfl, rfl, by simp; omega⟩
    · rw [if_neg d0, if_neg d0]
      by_cases d1 : dof c = 1
      · rw [if_pos d1, if_pos d1]
        exact ⟨_, _, rfl, rfl, by simp; omega⟩
      · rw [if_neg d1, if_neg d1, after_any, rafter_any c f ok d1, if_pos (of_ok ok), if_neg (by omega), if_neg d1]
        simp only [Option.bind_some]
        obtain ⟨ok', hlt⟩ := aft_ok c f f0 f1 ok d0 d1
        rw [wi_succ (by omega)]
        have hm : 0 < m := by omega
        exact loops f f0 f1 r (m - 1) (aft c f) (w ++ [dof c]) k k' (i + 1) ok' (by omega) (by omega) (by omega) (by omega) (by simp; omega)
termination_by m c w k => k
theorem eq_refl (c : S_fault_Case) : eqS_fault_Case c c = true := by simp [eqS_fault_Case]
theorem rank_le (d : Int) : rank d ≤ 3 := by unfold rank; split <;> (try split) <;> (try split) <;> omega
theorem law (c : S_fault_Case) (f : Int) : G_ringlaw2_FaultTells 20 c f = some true := by
  unfold G_ringlaw2_FaultTells G_fault_Steps
  simp only [do_any, after_any, fcheck_any, faults_any, Option.bind_some, if_true]
  by_cases hc : fchk c = 0
  · have ok := ok_of hc
    simp only [hc, if_true, rdo_any c ok, Option.bind_some, G_ringref2_In]
    by_cases hf : f < 0 ∨ 64 ≤ f
    · have e0 : (if f ≥ 0 then some (decide (f ≤ 63)) else some false) = some false := by
        by_cases q : f ≥ 0
        · rw [if_pos q]; simp; omega
        · rw [if_neg q]
      rw [e0]
      have e1 : (if f < 0 then some (([] : List Int), S_fault_Case.mk 0 (S_entry_Entry.mk false false 0 0 false false false) 0 0, (1 : Int)) else if f ≥ 64 then some (([] : List Int), S_fault_Case.mk 0 (S_entry_Entry.mk false false 0 0 false false false) 0 0, (1 : Int)) else (G_fault_Steps_L1 20 f 20 c ([] : List Int)).bind fun v_o302 => match v_o302 with
          | .x0 v_z303 v_z304 v_z305 => some (v_z304, v_z305, v_z303)) = some (([] : List Int), zc, (1 : Int)) := by
        by_cases q : f < 0
        · rw [if_pos q]; rfl
        · rw [if_neg q, if_pos (by omega)]; rfl
      rw [e1]
      simp [hf, G_ringlaw2_FaultTells_C2, zc, eqRes, eqS_fault_Case]
    · have f0 : 0 ≤ f := by omega
      have f1 : f < 64 := by omega
      rw [if_neg (by omega), if_neg (by omega), if_pos (by omega)]
      obtain ⟨o, z, h1, h2, h3⟩ := loops f f0 f1 ([], c, 0) 3 c [] 20 20 0 ok (rank_le _) (by omega) (by omega) (by omega) (by simp)
      have h1 : G_fault_Steps_L1 20 f 20 c [] = some (.x0 0 o z) := h1
      rw [h1]
      obtain ⟨o', z', h1', h2', h3'⟩ := loops f f0 f1 (o, z, 0) 3 c [] 20 20 0 ok (rank_le _) (by omega) (by omega) (by omega) (by simp)
      rw [h1] at h1'
      simp only [Option.some.injEq, G_fault_Steps_L1_R.x0.injEq, true_and] at h1'
      obtain ⟨rfl, rfl⟩ := h1'
      have h2' : G_ringlaw2_FaultTells_L4 20 f (o, z, 0) 20 0 [] c = some (.x0 o z) := h2'
      have hd : decide (f ≤ 63) = true := by simp; omega
      simp only [Option.bind_some, hd, if_neg hf, if_true]
      have c5 : G_ringlaw2_FaultTells_C5 20 (o, z, 0) o z = some (.x0 true) := by
        unfold G_ringlaw2_FaultTells_C5
        rw [equal_self 20 o (by omega) (by omega)]
        simp [eqRes, eq_refl]
      by_cases d1 : dof c = 1
      · simp only [if_pos d1]
        have c3 : G_ringlaw2_FaultTells_C3 20 f (zc, 11) (o, z, 0) (dof c) c = some .x1 := by
          unfold G_ringlaw2_FaultTells_C3
          simp [d1, eqRes, zc, eqS_fault_Case]
        simp only [c3, Option.bind_some, h2', c5]
      · simp only [if_neg d1]
        have c3 : G_ringlaw2_FaultTells_C3 20 f (aft c f, 0) (o, z, 0) (dof c) c = some .x1 := by
          unfold G_ringlaw2_FaultTells_C3
          simp [d1, eqRes, rafter_any c f ok d1, eq_refl]
        simp only [c3, Option.bind_some, h2', c5]
  · simp only [hc, if_false, Option.bind_some]
    simp [G_ringlaw2_FaultTells_C1, zc, eqRes, eqS_fault_Case]
end Go.Proofs.YtccmjndnjpjohaaR.faultTells
