/- EntryTells returns true for every entry, word and number, and leaves its arguments alone. No condition. -/
import Derived.Test.YtiajagahghgclaaLEntry
import Derived.Test.YtiajagahghgclaaMath
namespace Go.Proofs.Ytiajagahghgclaa.entryTells
open Go.ChangeShapes Go.WideShapes Go.ChangeAt Go.RowKit help rep pv
set_option linter.all false

def bt' (b : Bool) (n : Int) : Int := if b then n else 0
def word (e : S_entry_Entry) : Int := 32 * e.fRights + 256 * e.fAt + bt' e.fHere 1 + bt' e.fSlot 2 + bt' e.fUsed 4 + bt' e.fDirty 8 + bt' e.fCopy 16
def orb (b : Bool) (w n : Int) : Int := if b then bits .or .u32 w n else w
theorem word_loop (e : S_entry_Entry) (w : Int) : G_entry_Word_L1 20 e 20 w 0 = some (.x0 (orb e.fCopy (orb e.fDirty (orb e.fUsed (orb e.fSlot (orb e.fHere w 1) 2) 4) 8) 16)) := by
  obtain ⟨h, s, a, r, u, d, c⟩ := e
  cases h <;> cases s <;> cases u <;> cases d <;> cases c <;> rfl
theorem orb_add (i : Nat) (b : Bool) (y : Int) (h0 : 0 ≤ y) (h1 : y < 1000000) (hi : i ≤ 4) (hy : y / 2 ^ i % 2 = 0) : orb b y (2 ^ i) = y + bt' b (2 ^ i) := by
  cases b
  · simp [orb, bt']
  · simp only [orb, bt', if_true]; exact or_bit i y h0 h1 hi hy
theorem base_fin : ∀ R, R < 8 → ∀ A, A < 64 → bits .or .u32 (shlI .u32 (wi .u32 ((R : Nat) : Int)) 5) (shlI .u32 (wi .u32 ((A : Nat) : Int)) 8) = 32 * R + 256 * A := by decide +kernel
theorem word_any (e : S_entry_Entry) : G_entry_Word 20 e = some (if chk e = 0 then (word e, 0) else (0, chk e)) := by
  unfold G_entry_Word
  rw [check_any, Option.bind_some]
  by_cases hc : chk e = 0
  · rw [if_pos hc, if_pos hc, word_loop]
    obtain ⟨c1, c2, c3, c4⟩ := chk0 hc
    simp only [Option.bind_some, Option.some.injEq, Prod.mk.injEq, and_true]
    unfold word
    obtain ⟨h, s, a, r, u, d, c⟩ := e
    simp only at c1 c2 c3 c4 ⊢
    obtain ⟨R, rfl⟩ := Int.eq_ofNat_of_zero_le c1
    obtain ⟨A, rfl⟩ := Int.eq_ofNat_of_zero_le c3
    rw [base_fin R (by omega) A (by omega)]
    have b1 : bt' h 1 = 0 ∨ bt' h 1 = 1 := by cases h <;> simp [bt']
    have b2 : bt' s 2 = 0 ∨ bt' s 2 = 2 := by cases s <;> simp [bt']
    have b3 : bt' u 4 = 0 ∨ bt' u 4 = 4 := by cases u <;> simp [bt']
    have b4 : bt' d 8 = 0 ∨ bt' d 8 = 8 := by cases d <;> simp [bt']
    have e1 := orb_add 0 h (32 * (R : Int) + 256 * A) (by omega) (by omega) (by omega) (by simp; omega)
    have e2 := orb_add 1 s (32 * (R : Int) + 256 * A + bt' h 1) (by omega) (by omega) (by omega) (by simp; omega)
    have e3 := orb_add 2 u (32 * (R : Int) + 256 * A + bt' h 1 + bt' s 2) (by omega) (by omega) (by omega) (by simp; omega)
    have e4 := orb_add 3 d (32 * (R : Int) + 256 * A + bt' h 1 + bt' s 2 + bt' u 4) (by omega) (by omega) (by omega) (by simp; omega)
    have e5 := orb_add 4 c (32 * (R : Int) + 256 * A + bt' h 1 + bt' s 2 + bt' u 4 + bt' d 8) (by omega) (by omega) (by omega) (by simp; omega)
    simp only [show (2 : Int) ^ 0 = 1 from rfl, show (2 : Int) ^ 1 = 2 from rfl, show (2 : Int) ^ 2 = 4 from rfl, show (2 : Int) ^ 3 = 8 from rfl, show (2 : Int) ^ 4 = 16 from rfl] at e1 e2 e3 e4 e5
    rw [e1, e2, e3, e4, e5]
  · rw [if_neg hc, if_neg hc]
def addb (b : Bool) (w n : Int) : Int := if b then wi .u32 (w + n) else w
theorem rword_loop (e : S_entry_Entry) (w : Int) : G_ringref2_EntryWord_L1 20 e 20 w 0 = some (.x0 (addb e.fCopy (addb e.fDirty (addb e.fUsed (addb e.fSlot (addb e.fHere w 1) 2) 4) 8) 16)) := by
  obtain ⟨h, s, a, r, u, d, c⟩ := e
  cases h <;> cases s <;> cases u <;> cases d <;> cases c <;> rfl
theorem addb_add (b : Bool) (y n : Int) (h0 : 0 ≤ y) (h1 : y < 1000000) (hn : 0 ≤ n) (hn' : n ≤ 16) : addb b y n = y + bt' b n := by
  cases b
  · simp [addb, bt']
  · simp only [addb, bt', if_true]; exact wu32 (by omega) (by omega)
theorem rword_any (e : S_entry_Entry) (hc : chk e = 0) : G_ringref2_EntryWord 20 e = some (word e) := by
  obtain ⟨c1, c2, c3, c4⟩ := chk0 hc
  unfold G_ringref2_EntryWord
  rw [rword_loop]
  simp only [Option.bind_some, Option.some.injEq]
  unfold word
  have w1 : wi .u32 (wi .i64 (wi .i64 (32 * e.fRights) + wi .i64 (256 * e.fAt))) = 32 * e.fRights + 256 * e.fAt := by
    rw [wi64 (x := 32 * e.fRights) (by omega) (by omega), wi64 (x := 256 * e.fAt) (by omega) (by omega), wi64 (by omega) (by omega), wu32 (by omega) (by omega)]
  rw [w1]
  have b1 : bt' e.fHere 1 = 0 ∨ bt' e.fHere 1 = 1 := by cases e.fHere <;> simp [bt']
  have b2 : bt' e.fSlot 2 = 0 ∨ bt' e.fSlot 2 = 2 := by cases e.fSlot <;> simp [bt']
  have b3 : bt' e.fUsed 4 = 0 ∨ bt' e.fUsed 4 = 4 := by cases e.fUsed <;> simp [bt']
  have b4 : bt' e.fDirty 8 = 0 ∨ bt' e.fDirty 8 = 8 := by cases e.fDirty <;> simp [bt']
  rw [addb_add _ _ 1 (by omega) (by omega) (by omega) (by omega), addb_add _ _ 2 (by omega) (by omega) (by omega) (by omega), addb_add _ _ 4 (by omega) (by omega) (by omega) (by omega), addb_add _ _ 8 (by omega) (by omega) (by omega) (by omega), addb_add _ _ 16 (by omega) (by omega) (by omega) (by omega)]
/-- what a word says -/
def rd (x : Int) : S_entry_Entry := ⟨x % 2 == 1, x / 2 % 2 == 1, x / 256, x / 32 % 8, x / 4 % 2 == 1, x / 8 % 2 == 1, x / 16 % 2 == 1⟩
def zero : S_entry_Entry := ⟨false, false, 0, 0, false, false, false⟩
theorem read_any (x : Int) (h0 : 0 ≤ x) (h1 : x ≤ 4294967295) : G_entry_Read 20 x = some (if chk (rd x) = 0 then (rd x, 0) else (zero, 3)) := by
  have a0 : (bits .and .u32 x 1 != 0) = (x % 2 == 1) := by simpa using and_bit 0 x h0 h1 (by omega)
  have a1 : (bits .and .u32 x 2 != 0) = (x / 2 % 2 == 1) := by simpa using and_bit 1 x h0 h1 (by omega)
  have a2 : (bits .and .u32 x 4 != 0) = (x / 4 % 2 == 1) := by simpa using and_bit 2 x h0 h1 (by omega)
  have a3 : (bits .and .u32 x 8 != 0) = (x / 8 % 2 == 1) := by simpa using and_bit 3 x h0 h1 (by omega)
  have a4 : (bits .and .u32 x 16 != 0) = (x / 16 % 2 == 1) := by simpa using and_bit 4 x h0 h1 (by omega)
  have s5 : shrI .u32 x 5 = x / 32 := shr_u32 5 (by omega)
  have s8 : shrI .u32 x 8 = x / 256 := shr_u32 8 (by omega)
  have s7 : bits .and .u32 (x / 32) 7 = x / 32 % 8 := and_7 _ (by omega) (by omega)
  unfold G_entry_Read
  simp only [a0, a1, a2, a3, a4, s5, s8, s7]
  rw [wi64 (x := x / 256) (by omega) (by omega), wi64 (x := x / 32 % 8) (by omega) (by omega), check_any, Option.bind_some]
  show (if chk (rd x) = 0 then some (rd x, 0) else some (zero, 3)) = _
  split <;> rfl
theorem pow_any : G_ringref2_Power 20 0 = some 1 ∧ G_ringref2_Power 20 1 = some 2 ∧ G_ringref2_Power 20 2 = some 4 ∧ G_ringref2_Power 20 3 = some 8 ∧ G_ringref2_Power 20 4 = some 16 := ⟨rfl, rfl, rfl, rfl, rfl⟩
theorem rread_any (x : Int) (h0 : 0 ≤ x) (h1 : x ≤ 4294967295) : G_ringref2_EntryRead 20 x = some (if chk (rd x) = 0 then (rd x, true) else (zero, false)) := by
  unfold G_ringref2_EntryRead
  by_cases hx : x > 16383
  · rw [if_pos hx]
    have : chk (rd x) ≠ 0 := by
      intro hc
      have := (chk0 hc).2.2.2
      have e : (rd x).fAt = x / 256 := rfl
      omega
    rw [if_neg this]; rfl
  · rw [if_neg hx]
    have b : ∀ (k p : Int), G_ringref2_Power 20 k = some p → 0 < p → G_ringref2_EntryRead_1 20 k x = some (x / p % 2 == 1) := by
      intro k p hk hp
      unfold G_ringref2_EntryRead_1
      rw [hk, Option.bind_some, if_pos (by omega), wi64 (by omega) (by omega), quo_i64 h0 hp (by omega), rem_nn (Int.ediv_nonneg h0 (by omega))]
    obtain ⟨p0, p1, p2, p3, p4⟩ := pow_any
    rw [b 0 1 p0 (by omega), b 1 2 p1 (by omega), b 2 4 p2 (by omega), b 3 8 p3 (by omega), b 4 16 p4 (by omega)]
    simp only [Option.bind_some]
    rw [wi64 (x := x) (by omega) (by omega), quo_i64 h0 (by omega) (by omega), quo_i64 h0 (by omega) (by omega), rem_nn (Int.ediv_nonneg h0 (by omega)), entries_any, Option.bind_some]
    have e : (⟨x / 1 % 2 == 1, x / 2 % 2 == 1, x / 256, x / 32 % 8, x / 4 % 2 == 1, x / 8 % 2 == 1, x / 16 % 2 == 1⟩ : S_entry_Entry) = rd x := by simp [rd]
    rw [e]
    split <;> rfl
theorem eq_refl (e : S_entry_Entry) : eqS_entry_Entry e e = true := by simp [eqS_entry_Entry]
theorem has5 : ∀ Q, Q < 8 → has 5 ((Q : Nat) : Int) = !((Q : Int) / 2 % 2 == 1) := by decide +kernel
theorem law (e : S_entry_Entry) (x q : Int) (h0 : 0 ≤ x) (h1 : x ≤ 4294967295) : G_ringlaw2_EntryTells 20 e x q = some true := by
  unfold G_ringlaw2_EntryTells G_ringlaw2_EntryTells_C1 G_ringlaw2_EntryTells_C2 G_ringlaw2_EntryTells_C3 G_entry_Touch
  simp only [word_any, read_any x h0 h1, check_any, entries_any, may_any, rmay_any, rread_any x h0 h1, Option.bind_some, if_true, G_entry_None]
  have c1 : ∀ b : Bool, eqRes .neq (b == b) = false := by intro b; cases b <;> rfl
  have n1 : (if e.fHere = true then some false else some !e.fSlot : Option Bool) = some (!e.fHere && !e.fSlot) := by cases e.fHere <;> simp
  rw [n1]
  simp only [Option.bind_some]
  have r1 : ∀ (y : S_entry_Entry) (a b : Int) (t f : Bool), True := fun _ _ _ _ _ => trivial
  by_cases hr : chk (rd x) = 0
  · by_cases hc : chk e = 0
    · simp only [hr, hc, if_true, eq_refl, rword_any e hc]
      cases hh : e.fHere
      · have hm : may e q = false := by simp [may, hh]
        simp [eqRes, hm, zero, eqS_entry_Entry]
      · cases hm : may e q
        · simp [eqRes, zero, eqS_entry_Entry]
        · have hq : 1 ≤ q ∧ q ≤ 7 := by
            simp [may] at hm; omega
          obtain ⟨b1, b2⟩ := has_bits 5 q (by omega) (by omega) (by omega) (by omega)
          have b3 : G_ringref2_Has 20 5 q = some (has 5 q) := has_any 5 q (by omega) (by omega) (by omega) (by omega)
          have b4 : has 5 q = !(q / 2 % 2 == 1) := by
            obtain ⟨Q, rfl⟩ := Int.eq_ofNat_of_zero_le (show 0 ≤ q by omega)
            exact has5 Q (by omega)
          have b5 : (bits .and .i64 q 2 != 0) = (q / 2 % 2 == 1) := by rw [bne, b2]; simp
          cases hd : e.fDirty
          · simp [eqRes, b3, b4, b5, eqS_entry_Entry]
          · simp [eqRes, eqS_entry_Entry]
    · simp only [hr, hc, if_true, if_false, eq_refl]
      cases hh : e.fHere <;> simp [eqRes, zero, eqS_entry_Entry]
  · by_cases hc : chk e = 0
    · simp only [hr, hc, if_true, if_false, eq_refl, rword_any e hc]
      cases hh : e.fHere
      · have hm : may e q = false := by simp [may, hh]
        simp [eqRes, hm, zero, eqS_entry_Entry]
      · cases hm : may e q
        · simp [eqRes, zero, eqS_entry_Entry]
        · have hq : 1 ≤ q ∧ q ≤ 7 := by
            simp [may] at hm; omega
          obtain ⟨b1, b2⟩ := has_bits 5 q (by omega) (by omega) (by omega) (by omega)
          have b3 : G_ringref2_Has 20 5 q = some (has 5 q) := has_any 5 q (by omega) (by omega) (by omega) (by omega)
          have b4 : has 5 q = !(q / 2 % 2 == 1) := by
            obtain ⟨Q, rfl⟩ := Int.eq_ofNat_of_zero_le (show 0 ≤ q by omega)
            exact has5 Q (by omega)
          have b5 : (bits .and .i64 q 2 != 0) = (q / 2 % 2 == 1) := by rw [bne, b2]; simp
          cases hd : e.fDirty
          · simp [eqRes, b3, b4, b5, eqS_entry_Entry]
          · simp [eqRes, eqS_entry_Entry]
    · simp only [hr, hc, if_true, if_false, eq_refl]
      cases hh : e.fHere <;> simp [eqRes, zero, eqS_entry_Entry]
end Go.Proofs.Ytiajagahghgclaa.entryTells
