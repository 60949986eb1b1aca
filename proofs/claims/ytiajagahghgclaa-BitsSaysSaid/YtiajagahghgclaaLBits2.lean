/- BitsSays returns true for every two sets of bits and every three numbers, and leaves its arguments alone. No condition. -/
import Derived.Test.YtiajagahghgclaaLBits
namespace Go.Proofs.Ytiajagahghgclaa.bitsSays
open Go.ChangeShapes Go.WideShapes Go.ChangeAt Go.RowKit help rep pv
set_option linter.all false

theorem quo8 {N : Nat} (h : N < 256) : quoI .i64 (N : Int) 8 = ((N / 8 : Nat) : Int) := by rw [quo_i64 (by omega) (by omega) (by omega)]; simp
theorem rem8 {N : Nat} : remI (N : Int) 8 = ((N % 8 : Nat) : Int) := by rw [rem_nn (by omega)]; simp
theorem bit_up {s : Fin 32 → Nat} {k v j : Nat} (hj : j < 256) : bit (up s k v) j = if j / 8 = k then v.testBit (j % 8) else bit s j := by
  unfold bit
  rw [bt_up (by omega)]
  split <;> rfl
section
variable (n : Nat) {s o : Fin 32 → Nat} (hs : by8 s) (ho : by8 o)
include hs
theorem with_any (k : Int) : ∃ s', G_bits_Set_With n (iv s) k = some (iv s') ∧ by8 s' ∧ ∀ j : Nat, j < 256 → bit s' j = (bit s j || decide ((j : Int) = k)) := by
  unfold G_bits_Set_With
  by_cases h1 : k ≥ 0
  · by_cases h2 : k < 256
    · obtain ⟨N, rfl⟩ := Int.eq_ofNat_of_zero_le h1
      have hN : N < 256 := by omega
      have hI : 0 ≤ ((N / 8 : Nat) : Int) ∧ ((N / 8 : Nat) : Int) < 32 := by omega
      have hp := pow_lt (k := N % 8) (by omega)
      rw [if_pos h1, if_pos h2, quo8 hN, rem8, if_pos hI, get_iv (by omega), Option.bind_some, if_pos (by omega), if_pos hI, Option.bind_some, shl_one (by omega), u8_or _ _ (bt_lt hs _) hp, set_iv]
      refine ⟨_, rfl, by_up hs (Nat.or_lt_two_pow (n := 8) (bt_lt hs _) hp), fun j hj => ?_⟩
      rw [bit_up hj]
      by_cases e : j / 8 = N / 8
      · rw [if_pos e, Nat.testBit_or, Nat.testBit_two_pow]
        unfold bit
        rw [e]
        congr 1
        rw [decide_eq_decide]
        omega
      · rw [if_neg e]
        have : ¬ ((j : Int) = (N : Int)) := by intro h; apply e; congr 1; omega
        simp [this]
    · rw [if_pos h1, if_neg h2]
      exact ⟨s, rfl, hs, fun j hj => by have : ¬ ((j : Int) = k) := by omega
                                        simp [this]⟩
  · rw [if_neg h1]
    exact ⟨s, rfl, hs, fun j hj => by have : ¬ ((j : Int) = k) := by omega
                                      simp [this]⟩
theorem without_any (k : Int) : ∃ s', G_bits_Set_Without n (iv s) k = some (iv s') ∧ by8 s' ∧ ∀ j : Nat, j < 256 → bit s' j = (bit s j && !decide ((j : Int) = k)) := by
  unfold G_bits_Set_Without
  by_cases h1 : k ≥ 0
  · by_cases h2 : k < 256
    · obtain ⟨N, rfl⟩ := Int.eq_ofNat_of_zero_le h1
      have hN : N < 256 := by omega
      have hI : 0 ≤ ((N / 8 : Nat) : Int) ∧ ((N / 8 : Nat) : Int) < 32 := by omega
      have hp := pow_lt (k := N % 8) (by omega)
      rw [if_pos h1, if_pos h2, quo8 hN, rem8, if_pos hI, get_iv (by omega), Option.bind_some, if_pos (by omega), if_pos hI, Option.bind_some, shl_one (by omega), u8_andNot _ _ (bt_lt hs _) hp, set_iv]
      refine ⟨_, rfl, by_up hs (Nat.lt_of_le_of_lt Nat.and_le_left (bt_lt hs _)), fun j hj => ?_⟩
      rw [bit_up hj]
      by_cases e : j / 8 = N / 8
      · rw [if_pos e]
        show (an (bt s (N / 8)) (2 ^ (N % 8))).testBit (j % 8) = _
        rw [an_bit hp (by omega), Nat.testBit_two_pow]
        unfold bit
        rw [e]
        congr 2
        rw [decide_eq_decide]
        omega
      · rw [if_neg e]
        have : ¬ ((j : Int) = (N : Int)) := by intro h; apply e; congr 1; omega
        simp [this]
    · rw [if_pos h1, if_neg h2]
      exact ⟨s, rfl, hs, fun j hj => by have : ¬ ((j : Int) = k) := by omega
                                        simp [this]⟩
  · rw [if_neg h1]
    exact ⟨s, rfl, hs, fun j hj => by have : ¬ ((j : Int) = k) := by omega
                                      simp [this]⟩
theorem has_any (k : Int) : G_bits_Set_Has n (iv s) k = some (decide (0 ≤ k) && decide (k < 256) && bit s k.toNat) := by
  unfold G_bits_Set_Has G_bits_Set_Has_C1
  by_cases h1 : k ≥ 0
  · by_cases h2 : k < 256
    · obtain ⟨N, rfl⟩ := Int.eq_ofNat_of_zero_le h1
      have hN : N < 256 := by omega
      have hI : 0 ≤ ((N / 8 : Nat) : Int) ∧ ((N / 8 : Nat) : Int) < 32 := by omega
      rw [if_pos h1, if_pos h2, quo8 hN, rem8, if_pos hI, get_iv (by omega), Option.bind_some, if_pos (by omega), has_bit (bt_lt hs _) (by omega)]
      have e1 : decide (0 ≤ (N : Int)) = true := by simp
      have e2 : decide ((N : Int) < 256) = true := by simp; omega
      rw [e1, e2, Int.toNat_natCast]; rfl
    · rw [if_pos h1, if_neg h2]; simp [h2]
  · rw [if_neg h1]
    have : ¬ 0 ≤ k := by omega
    simp [this]
theorem has_nat {N : Nat} (h : N < 256) : G_bits_Set_Has n (iv s) (N : Int) = some (bit s N) := by
  rw [has_any n hs]
  have h1 : decide (0 ≤ (N : Int)) = true := by simp
  have h2 : decide ((N : Int) < 256) = true := by simp; omega
  rw [h1, h2, Int.toNat_natCast]; rfl
include ho
theorem join_any : ∀ (f x r : Nat) (c : Fin 32 → Nat), x + f = 32 → by8 c → ∃ s', G_bits_Set_Join_L1 n (iv o) (f + 1 + r) (x : Int) (iv c) = some (.x0 (iv s')) ∧ by8 s' ∧ ∀ j : Nat, j < 32 → bt s' j = if x ≤ j then bt c j ||| bt o j else bt c j
  | 0, x, r, c, h, hc => by
    rw [show 0 + 1 + r = r + 1 by omega, G_bits_Set_Join_L1, if_neg (by omega)]
    exact ⟨c, rfl, hc, fun j hj => by rw [if_neg (by omega)]⟩
  | f + 1, x, r, c, h, hc => by
    have hI : 0 ≤ (x : Int) ∧ (x : Int) < 32 := by omega
    have hl : bt c x ||| bt o x < 256 := Nat.or_lt_two_pow (n := 8) (bt_lt hc _) (bt_lt ho _)
    obtain ⟨s', p, q, t⟩ := join_any f (x + 1) r (up c x (bt c x ||| bt o x)) (by omega) (by_up hc hl)
    refine ⟨s', ?_, q, fun j hj => ?_⟩
    · rw [show f + 1 + 1 + r = (f + 1 + r) + 1 by omega, G_bits_Set_Join_L1, if_pos (by omega), if_pos hI, get_iv (by omega), Option.bind_some, if_pos hI, get_iv (by omega), Option.bind_some, if_pos hI, Option.bind_some, u8_or _ _ (bt_lt hc _) (bt_lt ho _), set_iv, wi_succ (by omega)]
      exact p
    · rw [t j hj, bt_up hj]
      by_cases h1 : x + 1 ≤ j
      · rw [if_pos h1, if_neg (show ¬ j = x by omega), if_pos (show x ≤ j by omega)]
      · rw [if_neg h1]
        by_cases h2 : j = x
        · rw [if_pos h2, if_pos (by omega), h2]
        · rw [if_neg h2, if_neg (by omega)]
theorem less_any : ∀ (f x r : Nat) (c : Fin 32 → Nat), x + f = 32 → by8 c → ∃ s', G_bits_Set_Less_L1 n (iv o) (f + 1 + r) (x : Int) (iv c) = some (.x0 (iv s')) ∧ by8 s' ∧ ∀ j : Nat, j < 32 → bt s' j = if x ≤ j then an (bt c j) (bt o j) else bt c j
  | 0, x, r, c, h, hc => by
    rw [show 0 + 1 + r = r + 1 by omega, G_bits_Set_Less_L1, if_neg (by omega)]
    exact ⟨c, rfl, hc, fun j hj => by rw [if_neg (by omega)]⟩
  | f + 1, x, r, c, h, hc => by
    have hI : 0 ≤ (x : Int) ∧ (x : Int) < 32 := by omega
    have hl : an (bt c x) (bt o x) < 256 := Nat.lt_of_le_of_lt Nat.and_le_left (bt_lt hc _)
    obtain ⟨s', p, q, t⟩ := less_any f (x + 1) r (up c x (an (bt c x) (bt o x))) (by omega) (by_up hc hl)
    refine ⟨s', ?_, q, fun j hj => ?_⟩
    · rw [show f + 1 + 1 + r = (f + 1 + r) + 1 by omega, G_bits_Set_Less_L1, if_pos (by omega), if_pos hI, get_iv (by omega), Option.bind_some, if_pos hI, get_iv (by omega), Option.bind_some, if_pos hI, Option.bind_some, u8_andNot _ _ (bt_lt hc _) (bt_lt ho _), set_iv, wi_succ (by omega)]
      exact p
    · rw [t j hj, bt_up hj]
      by_cases h1 : x + 1 ≤ j
      · rw [if_pos h1, if_neg (show ¬ j = x by omega), if_pos (show x ≤ j by omega)]
      · rw [if_neg h1]
        by_cases h2 : j = x
        · rw [if_pos h2, if_pos (by omega), h2]
        · rw [if_neg h2, if_neg (by omega)]
theorem join_ok (hn : 50 ≤ n) : ∃ s', G_bits_Set_Join n (iv s) (iv o) = some (iv s') ∧ by8 s' ∧ ∀ j : Nat, j < 256 → bit s' j = (bit s j || bit o j) := by
  obtain ⟨s', p, q, t⟩ := join_any n hs ho 32 0 (n - 33) s rfl hs
  rw [show 32 + 1 + (n - 33) = n by omega] at p
  have p : G_bits_Set_Join_L1 n (iv o) n 0 (iv s) = some (.x0 (iv s')) := p
  refine ⟨s', ?_, q, fun j hj => ?_⟩
  · unfold G_bits_Set_Join; rw [p]; rfl
  · unfold bit
    rw [t _ (by omega), if_pos (by omega), Nat.testBit_or]
theorem less_ok (hn : 50 ≤ n) : ∃ s', G_bits_Set_Less n (iv s) (iv o) = some (iv s') ∧ by8 s' ∧ ∀ j : Nat, j < 256 → bit s' j = (bit s j && !bit o j) := by
  obtain ⟨s', p, q, t⟩ := less_any n hs ho 32 0 (n - 33) s rfl hs
  rw [show 32 + 1 + (n - 33) = n by omega] at p
  have p : G_bits_Set_Less_L1 n (iv o) n 0 (iv s) = some (.x0 (iv s')) := p
  refine ⟨s', ?_, q, fun j hj => ?_⟩
  · unfold G_bits_Set_Less; rw [p]; rfl
  · unfold bit
    rw [t _ (by omega), if_pos (by omega), an_bit (bt_lt ho _) (by omega)]
end
/-- the first bit that is not set -/
def fs (s : Fin 32 → Nat) : Nat → Nat → Option Nat
  | 0, _ => none
  | f + 1, i => if bit s i = true then fs s f (i + 1) else some i
theorem fs_skip {s : Fin 32 → Nat} : ∀ (k f i : Nat), (∀ j, j < k → bit s (i + j) = true) → fs s f i = fs s (f - k) (i + k)
  | 0, f, i, _ => rfl
  | k + 1, 0, i, _ => by simp [fs]
  | k + 1, f + 1, i, h => by
    rw [fs, if_pos (by simpa using h 0 (by omega)), fs_skip k f (i + 1) (fun j hj => by rw [Nat.add_assoc, Nat.add_comm 1 j]; exact h (j + 1) (by omega)), show f + 1 - (k + 1) = f - k by omega, show i + 1 + k = i + (k + 1) by omega]
def lim (b : Int) : Nat := (minI b 256).toNat
theorem lim_le (b : Int) : lim b ≤ 256 := by unfold lim minI; split <;> omega
theorem lt_lim {b : Int} {i : Nat} : (i : Int) < minI b 256 ↔ i < lim b := by unfold lim minI; split <;> omega
section
variable (n : Nat) {s : Fin 32 → Nat} (hs : by8 s) (b : Int)
include hs
theorem all_ones {x : Nat} (h : bt s x = 255) (j : Nat) (hj : j < 8) : bit s (8 * x + j) = true := by
  unfold bit
  rw [show (8 * x + j) / 8 = x by omega, show (8 * x + j) % 8 = j by omega, h]
  have : ∀ j, j < 8 → Nat.testBit 255 j = true := by decide
  exact this j hj
theorem first_loop : ∀ (k i : Nat), lim b - i < k → G_bits_Set_First_L2 n b (iv s) k (i : Int) = some (match fs s (lim b - i) i with | some j => .x0 (j : Int) 0 | none => .x1)
  | 0, i, h => by omega
  | k + 1, i, h => by
    have hle := lim_le b
    rw [G_bits_Set_First_L2]
    by_cases hlt : i < lim b
    · rw [if_pos (lt_lim.2 hlt)]
      unfold G_bits_Set_First_C1
      have hI : 0 ≤ ((i / 8 : Nat) : Int) ∧ ((i / 8 : Nat) : Int) < 32 := by omega
      have step : (if bit s i = true then some (G_bits_Set_First_C1_R.x0 (i : Int)) else some (.x1 (i : Int) 0)).bind (fun v_o456 => match v_o456 with
          | .x0 v_z457 => G_bits_Set_First_L2 n b (iv s) k (wi .i64 (v_z457 + 1))
          | .x1 v_z458 v_z459 => some (.x0 v_z458 v_z459)) = some (match fs s (lim b - i) i with | some j => .x0 (j : Int) 0 | none => .x1) := by
        rw [show lim b - i = (lim b - (i + 1)) + 1 by omega, fs]
        cases bit s i with
        | true =>
          rw [if_pos rfl, if_pos rfl, Option.bind_some]
          simp only []
          rw [wi_succ (by omega), first_loop k (i + 1) (by omega)]
        | false => rw [if_neg (by decide), if_neg (by decide)]; rfl
      rw [rem8, quo8 (by omega), has_nat n hs (by omega), if_pos hI, get_iv (by omega)]
      by_cases h0 : ((i % 8 : Nat) : Int) = 0
      · rw [if_pos h0, Option.bind_some]
        by_cases h1 : ((bt s (i / 8) : Nat) : Int) = 255
        · rw [if_pos h1, Option.bind_some]
          simp only []
          have w : wi .i64 (wi .i64 ((i : Int) + 7) + 1) = ((i + 8 : Nat) : Int) := by
            rw [wi64 (x := (i : Int) + 7) (by omega) (by omega), wi64 (by omega) (by omega)]; simp; omega
          rw [w, first_loop k (i + 8) (by omega), fs_skip 8 (lim b - i) i (fun j hj => by
            have := all_ones hs (x := i / 8) (by omega) j hj
            rwa [show 8 * (i / 8) = i by omega] at this), show lim b - i - 8 = lim b - (i + 8) by omega]
        · rw [if_neg h1, Option.bind_some]
          exact step
      · rw [if_neg h0, Option.bind_some]
        exact step
    · rw [if_neg (fun h => hlt (lt_lim.1 h)), show lim b - i = 0 by omega]
      rfl
theorem first_any (hn : 300 ≤ n) (a : Int) : G_bits_Set_First n (iv s) a b = some (match fs s (lim b - (maxI 0 a).toNat) (maxI 0 a).toNat with | some j => ((j : Int), 0) | none => (0, 6)) := by
  have hle := lim_le b
  unfold G_bits_Set_First
  have h := first_loop n hs b n (maxI 0 a).toNat (by omega)
  have e : (((maxI 0 a).toNat : Nat) : Int) = maxI 0 a := by unfold maxI; split <;> omega
  rw [e] at h
  rw [h]
  cases fs s (lim b - (maxI 0 a).toNat) (maxI 0 a).toNat <;> rfl
theorem rfirst_loop (a : Int) : ∀ (k x : Nat), 256 - x < k → x ≤ 256 → G_ringref3_First_L2 n a b (bv s) k (x : Int) = some (match fs s (lim b - max x (maxI 0 a).toNat) (max x (maxI 0 a).toNat) with | some j => .x0 (j : Int) 0 | none => .x1)
  | 0, x, h, _ => by omega
  | k + 1, x, h, hx => by
    have hle := lim_le b
    have hF : maxI 0 a = ((maxI 0 a).toNat : Nat) := by unfold maxI; split <;> omega
    have hFa : ∀ y : Nat, ((y : Int) ≥ a ↔ (maxI 0 a).toNat ≤ y) := by intro y; unfold maxI; split <;> omega
    rw [G_ringref3_First_L2]
    by_cases hlt : x < 256
    · rw [if_pos (by omega), getA_at hlt, at_bv hlt, Option.bind_some]
      unfold G_ringref3_First_C1
      rw [wi_succ (by omega), rfirst_loop a k (x + 1) (by omega) (by omega)]
      by_cases hax : (maxI 0 a).toNat ≤ x
      · rw [show max x (maxI 0 a).toNat = x by omega, show max (x + 1) (maxI 0 a).toNat = x + 1 by omega]
        by_cases hb : x < lim b
        · have hb' : (x : Int) < b := by have := lt_lim.2 hb; unfold minI at this; split at this <;> omega
          rw [show lim b - x = (lim b - (x + 1)) + 1 by omega, fs]
          cases bit s x with
          | true => simp
          | false => simp [(hFa x).2 hax, hb']
        · have hb' : ¬ (x : Int) < b := by intro h; apply hb; rw [← lt_lim]; unfold minI; split <;> omega
          rw [show lim b - x = 0 by omega, show lim b - (x + 1) = 0 by omega]
          cases bit s x with
          | true => simp [fs]
          | false => simp [(hFa x).2 hax, hb', fs]
      · rw [show max x (maxI 0 a).toNat = max (x + 1) (maxI 0 a).toNat by omega]
        have : ¬ (x : Int) ≥ a := fun h => hax ((hFa x).1 h)
        cases bit s x with
        | true => simp
        | false => simp [this]
    · rw [if_neg (by omega), show lim b - max x (maxI 0 a).toNat = 0 by omega]
      rfl
theorem rfirst_any (hn : 300 ≤ n) (a : Int) : G_ringref3_First n (bv s) a b = some (match fs s (lim b - (maxI 0 a).toNat) (maxI 0 a).toNat with | some j => ((j : Int), 0) | none => (0, 6)) := by
  unfold G_ringref3_First
  have h := rfirst_loop n hs b a n 0 (by omega) (by omega)
  rw [show max 0 (maxI 0 a).toNat = (maxI 0 a).toNat by omega] at h
  have h : G_ringref3_First_L2 n a b (bv s) n 0 = _ := h
  rw [h]
  cases fs s (lim b - (maxI 0 a).toNat) (maxI 0 a).toNat <;> rfl
end
end Go.Proofs.Ytiajagahghgclaa.bitsSays
