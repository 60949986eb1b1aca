/- The plain law of TwinTells, first part: powers of two, rooms, buddies. -/
import Derived.Test.YtpeakaeblibfmaaSpTw
namespace Go.Proofs.Ytpeakaeblibfmaa.twinTells
open Go.RowKit help pv
set_option linter.all false

abbrev R := S_twin_Room
def pw (k : Int) : Int := ((2 ^ k.toNat : Nat) : Int)
theorem pw_pos (k : Int) : 0 < pw k := by
  unfold pw
  have := Nat.pos_of_ne_zero (show (2 ^ k.toNat : Nat) ≠ 0 by simp)
  omega
theorem pw_succ {k : Int} (h : 0 ≤ k) : pw (k + 1) = 2 * pw k := by
  obtain ⟨m, rfl⟩ := Int.eq_ofNat_of_zero_le h
  unfold pw
  rw [show ((m : Int) + 1).toNat = m + 1 by omega, Int.toNat_natCast, Nat.pow_succ]
  omega
theorem pw_le {a b : Int} (h : a ≤ b) : pw a ≤ pw b := by
  unfold pw
  have : 2 ^ a.toNat ≤ 2 ^ b.toNat := Nat.pow_le_pow_right (by omega) (by omega)
  omega
theorem pw6 {k : Int} (h : k ≤ 6) : pw k ≤ 64 := pw_le (b := 6) h
theorem shl1 {k : Int} (h0 : 0 ≤ k) (h6 : k ≤ 6) : shlI .i64 1 k = pw k := by
  have : ∀ k, k < 7 → shlI .i64 1 ((k : Nat) : Int) = pw (k : Int) := by decide +kernel
  obtain ⟨m, rfl⟩ := Int.eq_ofNat_of_zero_le h0
  exact this m (by omega)
theorem six {k : Int} (h0 : 0 ≤ k) (h6 : k ≤ 6) : k = 0 ∨ k = 1 ∨ k = 2 ∨ k = 3 ∨ k = 4 ∨ k = 5 ∨ k = 6 := by omega

/-- a room that is one -/
def VR (o : Int) (r : R) : Prop := 0 ≤ r.fOrder ∧ r.fOrder ≤ o ∧ 0 ≤ r.fAt ∧ r.fAt ≤ pw o - pw r.fOrder ∧ r.fAt % pw r.fOrder = 0
instance (o : Int) (r : R) : Decidable (VR o r) := by unfold VR; infer_instance
/-- two rooms that are halves of one -/
def bud (o : Int) (x r : R) : Prop := x.fOrder = r.fOrder ∧ (x.fAt = r.fAt + pw r.fOrder ∨ r.fAt = x.fAt + pw r.fOrder) ∧ VR o ⟨minI x.fAt r.fAt, r.fOrder + 1⟩
instance (o : Int) (x r : R) : Decidable (bud o x r) := by unfold bud; infer_instance

theorem xor_fin : ∀ k, k < 7 → ∀ a, a < 2 ^ (6 - k) → ∀ b, b < 2 ^ (6 - k) →
    (bits .xor .i64 ((2 ^ k * a : Nat) : Int) ((2 ^ k * b : Nat) : Int) == ((2 ^ k : Nat) : Int)) = (decide (a = b + 1 ∧ b % 2 = 0) || decide (b = a + 1 ∧ a % 2 = 0)) := by decide +kernel
theorem minI_le {a b : Int} (h : a ≤ b) : minI a b = a := by unfold minI; rw [if_neg (by omega)]
theorem minI_gt {a b : Int} (h : b < a) : minI a b = b := by unfold minI; rw [if_pos h]
theorem buddies {n : Nat} {o : Int} {x r : R} (ho : o ≤ 6) (hx : VR o x) (hr : VR o r) : G_twin_buddies n x r = some (decide (bud o x r)) := by
  obtain ⟨x0, x1, x2, x3, x4⟩ := hx
  obtain ⟨r0, r1, r2, r3, r4⟩ := hr
  unfold G_twin_buddies
  by_cases e : x.fOrder = r.fOrder
  · rw [if_pos e, if_pos x0, e, shl1 r0 (by omega)]
    rw [e] at x3 x4
    congr 1
    generalize hk : r.fOrder = k at *
    have d1 := Int.mul_ediv_add_emod x.fAt (pw k)
    have d2 := Int.mul_ediv_add_emod r.fAt (pw k)
    have n1 : 0 ≤ x.fAt / pw k := Int.ediv_nonneg x2 (by have := pw_pos k; omega)
    have n2 : 0 ≤ r.fAt / pw k := Int.ediv_nonneg r2 (by have := pw_pos k; omega)
    obtain ⟨a, ha⟩ := Int.eq_ofNat_of_zero_le n1
    obtain ⟨b, hb⟩ := Int.eq_ofNat_of_zero_le n2
    rw [ha, x4] at d1
    rw [hb, r4] at d2
    have lo : pw o ≤ 64 := pw6 ho
    obtain ⟨m, rfl⟩ := Int.eq_ofNat_of_zero_le r0
    have hm : m < 7 := by omega
    have key := xor_fin m hm a ?_ b ?_
    · have e1 : x.fAt = ((2 ^ m * a : Nat) : Int) := by rw [← d1]; simp [pw]
      have e2 : r.fAt = ((2 ^ m * b : Nat) : Int) := by rw [← d2]; simp [pw]
      have hp : pw (m : Int) = ((2 ^ m : Nat) : Int) := by simp [pw]
      rw [hp, e1, e2, key]
      have hq : pw ((m : Int) + 1) = 2 * pw m := pw_succ (by omega)
      have hz : pw ((m : Int) + 1) ≤ pw o ∨ ((m : Int) = o) := by
        rcases Int.lt_or_eq_of_le r1 with h | h
        · exact Or.inl (pw_le (by omega))
        · exact Or.inr h
      have hdec : (decide (a = b + 1 ∧ b % 2 = 0) || decide (b = a + 1 ∧ a % 2 = 0)) = decide ((a = b + 1 ∧ b % 2 = 0) ∨ (b = a + 1 ∧ a % 2 = 0)) := by simp
      rw [hdec, decide_eq_decide]
      simp only [bud, VR, e, hk, true_and, e1, e2]
      have hmcase : m = 0 ∨ m = 1 ∨ m = 2 ∨ m = 3 ∨ m = 4 ∨ m = 5 ∨ m = 6 := by omega
      rw [hq, hp]
      have ho' : ((m : Int) = o) → pw o = ((2 ^ m : Nat) : Int) := by intro h; rw [← h, hp]
      rw [e1, hp] at x3
      rw [e2, hp] at r3
      rw [hq, hp] at hz
      generalize pw o = O at *
      clear key hdec d1 d2 n1 n2 ha hb hq hp e1 e2 x4 r4 x2 r2
      unfold minI
      rcases hmcase with rfl | rfl | rfl | rfl | rfl | rfl | rfl <;> simp only [Nat.reducePow] at * <;> split <;> omega
    · rw [← d1] at x3
      have hmcase : m = 0 ∨ m = 1 ∨ m = 2 ∨ m = 3 ∨ m = 4 ∨ m = 5 ∨ m = 6 := by omega
      simp only [pw, Int.toNat_natCast] at x3 lo
      rcases hmcase with rfl | rfl | rfl | rfl | rfl | rfl | rfl <;> simp only [Nat.reducePow, Nat.reduceSub] at * <;> omega
    · rw [← d2] at r3
      have hmcase : m = 0 ∨ m = 1 ∨ m = 2 ∨ m = 3 ∨ m = 4 ∨ m = 5 ∨ m = 6 := by omega
      simp only [pw, Int.toNat_natCast] at r3 lo
      rcases hmcase with rfl | rfl | rfl | rfl | rfl | rfl | rfl <;> simp only [Nat.reducePow, Nat.reduceSub] at * <;> omega
  · rw [if_neg e]
    simp [bud, e]
end Go.Proofs.Ytpeakaeblibfmaa.twinTells
