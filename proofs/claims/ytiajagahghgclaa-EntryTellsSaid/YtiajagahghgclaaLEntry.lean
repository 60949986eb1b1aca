/- EntryTells returns true for every entry, word and number, and leaves its arguments alone. No condition. -/
import Derived.Test.YtiajagahghgclaaGuEntryTells
import Derived.ChangeOld
namespace Go.Proofs.Ytiajagahghgclaa.entryTells
open Go.ChangeShapes Go.WideShapes Go.ChangeAt Go.RowKit help rep pv
set_option linter.all false

def chk (e : S_entry_Entry) : Int :=
  if e.fRights < 0 ∨ 7 < e.fRights ∨ e.fAt < 0 ∨ 64 ≤ e.fAt then 1
  else if (e.fHere && e.fSlot) || (e.fDirty && !e.fHere) || (e.fUsed && !e.fHere) || (!e.fHere && !e.fSlot && (e.fCopy || e.fAt != 0 || e.fRights != 0)) then 3 else 0
theorem chk0 {e : S_entry_Entry} (hk : chk e = 0) : 0 ≤ e.fRights ∧ e.fRights ≤ 7 ∧ 0 ≤ e.fAt ∧ e.fAt ≤ 63 := by
  unfold chk at hk
  split at hk
  · cases hk
  · omega
theorem check_any (n : Nat) (e : S_entry_Entry) : G_entry_Check n e = some (chk e) := by
  obtain ⟨h, s, a, r, u, d, c⟩ := e
  unfold G_entry_Check G_entry_Check_C1 G_entry_Check_C2 G_entry_Check_C3 G_entry_None chk eqS_entry_Entry
  by_cases h1 : r < 0
  · simp [h1]
  by_cases h2 : r > 7
  · simp [h1, h2]
  by_cases h3 : a < 0
  · simp [h1, h2, h3]
  by_cases h4 : a ≥ 64
  · simp [h1, h2, h3, h4]
  have h5 : ¬ (r < 0 ∨ 7 < r ∨ a < 0 ∨ 64 ≤ a) := by omega
  rw [if_neg h5]
  simp only [h1, h2, h3, h4, if_false, Option.bind_some]
  cases h <;> cases s <;> cases u <;> cases d <;> cases c <;> simp [eqRes] <;> (try (by_cases e1 : a = 0 <;> by_cases e2 : r = 0 <;> simp [e1, e2]))
theorem entries_any (n : Nat) (e : S_entry_Entry) : G_ringref2_Entries n e = some (chk e) := by
  obtain ⟨h, s, a, r, u, d, c⟩ := e
  unfold G_ringref2_Entries G_ringref2_Entries_C1 G_ringref2_Entries_C2 G_ringref2_Entries_C3 G_ringref2_In chk
  by_cases h1 : r ≥ 0
  · by_cases h2 : r ≤ 7
    · by_cases h3 : a ≥ 0
      · by_cases h4 : a ≤ 63
        · have h5 : ¬ (r < 0 ∨ 7 < r ∨ a < 0 ∨ 64 ≤ a) := by omega
          rw [if_neg h5]
          simp only [h1, h2, h3, h4, if_true, Option.bind_some, decide_true, Bool.not_true]
          have e1 : (a > 0) = ¬ (a = 0) := by simp; omega
          have e2 : (r > 0) = ¬ (r = 0) := by simp; omega
          cases h <;> cases s <;> cases u <;> cases d <;> cases c <;> simp [e1, e2] <;> (try (by_cases e3 : a = 0 <;> by_cases e4 : r = 0 <;> simp [e3, e4]))
        · have h5 : r < 0 ∨ 7 < r ∨ a < 0 ∨ 64 ≤ a := by omega
          simp [h1, h2, h3, h4, if_pos h5]
      · have h5 : r < 0 ∨ 7 < r ∨ a < 0 ∨ 64 ≤ a := by omega
        simp [h1, h2, h3, if_pos h5]
    · have h5 : r < 0 ∨ 7 < r ∨ a < 0 ∨ 64 ≤ a := by omega
      simp [h1, h2, if_pos h5]
  · have h5 : r < 0 ∨ 7 < r ∨ a < 0 ∨ 64 ≤ a := by omega
    simp [h1, if_pos h5]
def has (r q : Int) : Bool := (q % 2 != 1 || r % 2 != 0) && (q / 2 % 2 != 1 || r / 2 % 2 != 0) && (q / 4 % 2 != 1 || r / 4 % 2 != 0)
theorem has_nat : ∀ R, R < 8 → ∀ Q, Q < 8 → ((((R &&& Q : Nat) : Int) == ((Q : Nat) : Int)) = has R Q ∧ ((((Q &&& 2 : Nat) : Int) == 0) = !((Q : Int) / 2 % 2 == 1))) := by decide +kernel
theorem has_bits (r q : Int) (h1 : 0 ≤ r) (h2 : r ≤ 7) (h3 : 0 ≤ q) (h4 : q ≤ 7) : (bits .and .i64 r q == q) = has r q ∧ (bits .and .i64 q 2 == 0) = !(q / 2 % 2 == 1) := by
  obtain ⟨R, rfl⟩ := Int.eq_ofNat_of_zero_le h1
  obtain ⟨Q, rfl⟩ := Int.eq_ofNat_of_zero_le h3
  have := has_nat R (by omega) Q (by omega)
  rw [i64_and_nat _ _ (by omega) (by omega), show (2 : Int) = ((2 : Nat) : Int) from rfl, i64_and_nat _ _ (by omega) (by omega)]
  exact this
theorem has_fin : ∀ R, R < 8 → ∀ Q, Q < 8 → G_ringref2_Has 20 ((R : Nat) : Int) ((Q : Nat) : Int) = some (has R Q) := by decide +kernel
theorem has_any (r q : Int) (h1 : 0 ≤ r) (h2 : r ≤ 7) (h3 : 0 ≤ q) (h4 : q ≤ 7) : G_ringref2_Has 20 r q = some (has r q) := by
  obtain ⟨R, rfl⟩ := Int.eq_ofNat_of_zero_le h1
  obtain ⟨Q, rfl⟩ := Int.eq_ofNat_of_zero_le h3
  exact has_fin R (by omega) Q (by omega)
theorem two_fin : ∀ Q, Q < 8 → ((remI (quoI .i64 ((Q : Nat) : Int) 2) 2) == 1) = ((Q : Int) / 2 % 2 == 1) := by decide +kernel
theorem two_any (q : Int) (h3 : 0 ≤ q) (h4 : q ≤ 7) : ((remI (quoI .i64 q 2) 2) == 1) = (q / 2 % 2 == 1) := by
  obtain ⟨Q, rfl⟩ := Int.eq_ofNat_of_zero_le h3
  exact two_fin Q (by omega)
def may (e : S_entry_Entry) (q : Int) : Bool := decide (1 ≤ q) && decide (q ≤ 7) && (chk e == 0) && e.fHere && has e.fRights q && !(e.fCopy && q / 2 % 2 == 1)
theorem may_any (e : S_entry_Entry) (q : Int) : G_entry_May 20 e q = some (may e q) := by
  unfold G_entry_May G_entry_May_C1 may
  by_cases h1 : q ≥ 1
  · by_cases h2 : q ≤ 7
    · by_cases hc : chk e = 0
      · obtain ⟨c1, c2, _, _⟩ := chk0 hc
        obtain ⟨b1, b2⟩ := has_bits e.fRights q c1 c2 (by omega) h2
        have b3 : (bits .and .i64 e.fRights q = q) = (has e.fRights q = true) := by rw [← b1]; simp
        have b4 : (bits .and .i64 q 2 = 0) = ((q / 2 % 2 == 1) = false) := by
          have : (bits .and .i64 q 2 = 0) = ((bits .and .i64 q 2 == 0) = true) := by simp
          rw [this, b2]; simp
        simp only [h1, h2, if_true, check_any, Option.bind_some, hc, b3, b4]
        cases hh : e.fHere <;> cases ha : has e.fRights q <;> cases hq : (q / 2 % 2 == 1) <;> cases hp : e.fCopy <;> simp <;> omega
      · simp [h1, h2, check_any, hc]
    · simp [h1, h2]
  · have : ¬ (1 ≤ q) := by omega
    simp [h1, this]
theorem rmay_any (e : S_entry_Entry) (q : Int) : G_ringref2_EntryMay 20 e q = some (may e q) := by
  unfold G_ringref2_EntryMay G_ringref2_EntryMay_C1 may G_ringref2_In
  by_cases h1 : q ≥ 1
  · by_cases h2 : q ≤ 7
    · by_cases hc : chk e = 0
      · obtain ⟨c1, c2, _, _⟩ := chk0 hc
        have b1 := has_any e.fRights q c1 c2 (by omega) h2
        have b2 := two_any q (by omega) h2
        simp only [h1, h2, if_true, entries_any, Option.bind_some, hc, b1, b2, decide_true]
        cases hh : e.fHere <;> cases ha : has e.fRights q <;> cases hq : (q / 2 % 2 == 1) <;> cases hp : e.fCopy <;> simp <;> omega
      · simp [h1, h2, entries_any, hc]
    · simp [h1, h2]
  · have : ¬ (1 ≤ q) := by omega
    simp [h1, this]
end Go.Proofs.Ytiajagahghgclaa.entryTells
