/- BitsSays returns true for every two sets of bits and every three numbers, and leaves its arguments alone. No condition. -/
import Derived.Test.YtiajagahghgclaaGuBitsSays
import Derived.Test.YtiajagahghgclaaMath
import Derived.ChangeOld
namespace Go.Proofs.Ytiajagahghgclaa.bitsSays
open Go.ChangeShapes Go.WideShapes Go.ChangeAt Go.RowKit help rep pv
set_option linter.all false

theorem equal_loop (n : Nat) (l : List Int) (hl : l.length < 1000000) : ∀ (k i : Nat), l.length - i < k → i ≤ l.length → G_slices_Equal_int_int_L1 n l l k (i : Int) = some .x1
  | 0, i, h, _ => by omega
  | k + 1, i, h, hi => by
    rw [G_slices_Equal_int_int_L1]
    by_cases hlt : (i : Int) < (l.length : Int)
    · obtain ⟨x, hx⟩ := get_lt hlt
      rw [if_pos hlt, getI_nat, hx, Option.bind_some, Option.bind_some, if_pos rfl, wi_succ (by omega)]
      exact equal_loop n l hl k (i + 1) (by omega) (by omega)
    · rw [if_neg hlt]
theorem equal_self (n : Nat) (l : List Int) (hl : l.length < 1000000) (hn : l.length < n) : G_slices_Equal_int_int n l l = some true := by
  unfold G_slices_Equal_int_int
  have := equal_loop n l hl n 0 (by omega) (by omega)
  have : G_slices_Equal_int_int_L1 n l l n 0 = some .x1 := this
  rw [if_pos rfl, this]; rfl
theorem ofInt8 (a : Nat) (h : a < 256) : (BitVec.ofInt 8 (a : Int)).toNat = a := by
  rw [BitVec.toNat_ofInt]
  show ((a : Int) % 256).toNat = a
  omega
theorem u8_or (a b : Nat) (ha : a < 256) (hb : b < 256) : bits .or .u8 (a : Int) (b : Int) = ((a ||| b : Nat) : Int) := by
  have hx : a ||| b < 256 := Nat.or_lt_two_pow (n := 8) ha hb
  show IntKind.u8.wrap ((BitVec.ofInt 8 (a : Int) ||| BitVec.ofInt 8 (b : Int)).toNat : Int) = _
  rw [BitVec.toNat_or, ofInt8 a ha, ofInt8 b hb, IntKind.wrap_u8]
  omega
theorem u8_andNot (a b : Nat) (ha : a < 256) (hb : b < 256) : bits .andNot .u8 (a : Int) (b : Int) = ((a &&& (255 - b) : Nat) : Int) := by
  have hx : a &&& (255 - b) < 256 := Nat.lt_of_le_of_lt Nat.and_le_left ha
  show IntKind.u8.wrap ((BitVec.ofInt 8 (a : Int) &&& ~~~(BitVec.ofInt 8 (b : Int))).toNat : Int) = _
  rw [BitVec.toNat_and, BitVec.toNat_not, ofInt8 a ha, ofInt8 b hb, IntKind.wrap_u8]
  have e : (2 ^ 8 - 1 - b) = (255 - b) := rfl
  rw [e]
  omega
def an (a b : Nat) : Nat := a &&& (255 - b)
theorem an_bit {a b i : Nat} (hb : b < 256) (hi : i < 8) : (an a b).testBit i = (a.testBit i && !b.testBit i) := by
  have e : 255 - b = 2 ^ 8 - (b + 1) := by omega
  unfold an
  rw [e, Nat.testBit_and, Nat.testBit_two_pow_sub_succ (by omega)]
  simp [hi]
theorem shl_one {k : Nat} (hk : k < 8) : shlI .u8 1 (k : Int) = ((2 ^ k : Nat) : Int) := by
  have : ∀ k, k < 8 → shlI .u8 1 ((k : Nat) : Int) = ((2 ^ k : Nat) : Int) := by decide +kernel
  exact this k hk
theorem has_bit {y k : Nat} (hy : y < 256) (hk : k < 8) : (bits .and .u8 (shrI .u8 (y : Int) (k : Int)) 1 == 1) = y.testBit k := by
  have : ∀ y, y < 256 → ∀ k, k < 8 → (bits .and .u8 (shrI .u8 ((y : Nat) : Int) ((k : Nat) : Int)) 1 == 1) = y.testBit k := by decide +kernel
  exact this y hy k hk
theorem pow_lt {k : Nat} (hk : k < 8) : 2 ^ k < 256 := by have := Nat.pow_lt_pow_right (a := 2) (by omega) hk; omega
/-- 32 bytes as numbers -/
def iv (s : Fin 32 → Nat) : Fin 32 → Int := fun i => ((s i : Nat) : Int)
def bt (s : Fin 32 → Nat) (k : Nat) : Nat := if h : k < 32 then s ⟨k, h⟩ else 0
def bit (s : Fin 32 → Nat) (j : Nat) : Bool := (bt s (j / 8)).testBit (j % 8)
def by8 (s : Fin 32 → Nat) : Prop := ∀ i, s i < 256
theorem bt_lt {s : Fin 32 → Nat} (h : by8 s) (k : Nat) : bt s k < 256 := by
  unfold bt; split
  · exact h _
  · omega
theorem get_iv {s : Fin 32 → Nat} {k : Nat} (h : k < 32) : getA (iv s) (k : Int) = some ((bt s k : Nat) : Int) := by
  unfold getA bt iv
  rw [dif_pos (by omega), dif_pos h]; rfl
def up (s : Fin 32 → Nat) (k v : Nat) : Fin 32 → Nat := fun i => if i.val = k then v else s i
theorem set_iv {s : Fin 32 → Nat} {k v : Nat} : setA (iv s) (k : Int) ((v : Nat) : Int) = iv (up s k v) := by
  funext i
  unfold setA iv up
  rw [Int.toNat_natCast]
  split <;> rfl
theorem bt_up {s : Fin 32 → Nat} {k v j : Nat} (hj : j < 32) : bt (up s k v) j = if j = k then v else bt s j := by
  unfold bt up
  rw [dif_pos hj, dif_pos hj]
theorem by_up {s : Fin 32 → Nat} (h : by8 s) {k v : Nat} (hv : v < 256) : by8 (up s k v) := by
  intro i; unfold up; split
  · exact hv
  · exact h i
/-- 256 booleans -/
def at_ (A : Fin 256 → Bool) (j : Nat) : Bool := if h : j < 256 then A ⟨j, h⟩ else false
theorem getA_at {A : Fin 256 → Bool} {j : Nat} (h : j < 256) : getA A (j : Int) = some (at_ A j) := by
  unfold getA at_
  rw [dif_pos (by omega), dif_pos h]; rfl
theorem set_at {A : Fin 256 → Bool} {i j : Nat} {b : Bool} (h : j < 256) : at_ (setA A (i : Int) b) j = if j = i then b else at_ A j := by
  unfold at_ setA
  rw [dif_pos h, dif_pos h, Int.toNat_natCast]
theorem half {c : Nat} (hc : c < 256) : quoI .u8 (c : Int) 2 = ((c / 2 : Nat) : Int) := by
  have : ∀ c, c < 256 → quoI .u8 ((c : Nat) : Int) 2 = ((c / 2 : Nat) : Int) := by decide +kernel
  exact this c hc
theorem odd {c : Nat} (hc : c < 256) : (remI (c : Int) 2 == 1) = c.testBit 0 := by
  have : ∀ c, c < 256 → (remI ((c : Nat) : Int) 2 == 1) = c.testBit 0 := by decide +kernel
  exact this c hc
theorem b2 (n x : Nat) (hx : x < 32) (b6 : Fin 32 → Int) : ∀ (f i r c : Nat) (A : Fin 256 → Bool), i + f = 8 → c < 256 → ∃ A', G_ringref3_Bits_L2 n (x : Int) b6 (f + 1 + r) (c : Int) (i : Int) A = some (.x0 A') ∧ ∀ j, j < 256 → at_ A' j = if 8 * x + i ≤ j ∧ j < 8 * x + 8 then c.testBit (j - (8 * x + i)) else at_ A j
  | 0, i, r, c, A, h, hc => by
    rw [show 0 + 1 + r = r + 1 by omega, G_ringref3_Bits_L2, if_neg (by omega)]
    exact ⟨A, rfl, fun j hj => by rw [if_neg (by omega)]⟩
  | f + 1, i, r, c, A, h, hc => by
    have w : wi .i64 (wi .i64 (8 * (x : Int)) + i) = ((8 * x + i : Nat) : Int) := by
      rw [wi64 (x := 8 * (x : Int)) (by omega) (by omega), wi64 (by omega) (by omega)]; simp
    obtain ⟨A', p, q⟩ := b2 n x hx b6 f (i + 1) r (c / 2) (setA A ((8 * x + i : Nat) : Int) (c.testBit 0)) (by omega) (by omega)
    have hI : 0 ≤ ((8 * x + i : Nat) : Int) ∧ ((8 * x + i : Nat) : Int) < 256 := by omega
    refine ⟨A', ?_, fun j hj => ?_⟩
    · rw [show f + 1 + 1 + r = (f + 1 + r) + 1 by omega, G_ringref3_Bits_L2, if_pos (by omega), w, if_pos hI, getA_at (by omega), Option.bind_some, half hc, odd hc, wi_succ (by omega)]
      exact p
    · rw [q j hj, set_at hj]
      by_cases h1 : 8 * x + (i + 1) ≤ j ∧ j < 8 * x + 8
      · rw [if_pos h1, if_pos (by omega), Nat.testBit_div_two]
        congr 1; omega
      · rw [if_neg h1]
        by_cases h2 : j = 8 * x + i
        · rw [if_pos h2, if_pos (by omega)]
          congr 1; omega
        · rw [if_neg h2, if_neg (by omega)]
theorem b3 (n : Nat) (hn : 20 ≤ n) (s : Fin 32 → Nat) (hs : by8 s) : ∀ (f x r : Nat) (A : Fin 256 → Bool), x + f = 32 → ∃ A', G_ringref3_Bits_L3 n (iv s) (f + 1 + r) (x : Int) A = some (.x0 A') ∧ ∀ j, j < 256 → at_ A' j = if 8 * x ≤ j then bit s j else at_ A j
  | 0, x, r, A, h => by
    rw [show 0 + 1 + r = r + 1 by omega, G_ringref3_Bits_L3, if_neg (by omega)]
    exact ⟨A, rfl, fun j hj => by rw [if_neg (by omega)]⟩
  | f + 1, x, r, A, h => by
    obtain ⟨A1, p1, q1⟩ := b2 n x (by omega) (iv s) 8 0 (n - 9) (bt s x) A rfl (bt_lt hs x)
    rw [show 8 + 1 + (n - 9) = n by omega] at p1
    have p1 : G_ringref3_Bits_L2 n (x : Int) (iv s) n ((bt s x : Nat) : Int) 0 A = some (.x0 A1) := p1
    obtain ⟨A', p, q⟩ := b3 n hn s hs f (x + 1) r A1 (by omega)
    refine ⟨A', ?_, fun j hj => ?_⟩
    · rw [show f + 1 + 1 + r = (f + 1 + r) + 1 by omega, G_ringref3_Bits_L3, if_pos (by omega), get_iv (by omega), Option.bind_some, p1, Option.bind_some]
      simp only []
      rw [wi_succ (by omega)]
      exact p
    · rw [q j hj, q1 j hj]
      by_cases h1 : 8 * (x + 1) ≤ j
      · rw [if_pos h1, if_pos (by omega)]
      · rw [if_neg h1]
        by_cases h2 : 8 * x ≤ j
        · rw [if_pos (by omega), if_pos h2]
          unfold bit
          rw [show j / 8 = x by omega]
          congr 1; omega
        · rw [if_neg (by omega), if_neg h2]
/-- a set's bits -/
def bv (s : Fin 32 → Nat) : Fin 256 → Bool := fun j => bit s j.val
theorem at_bv {s : Fin 32 → Nat} {j : Nat} (h : j < 256) : at_ (bv s) j = bit s j := by
  unfold at_; rw [dif_pos h]; rfl
theorem bits_loop (n : Nat) (hn : 50 ≤ n) (s : Fin 32 → Nat) (hs : by8 s) (A : Fin 256 → Bool) : G_ringref3_Bits_L3 n (iv s) n 0 A = some (.x0 (bv s)) := by
  obtain ⟨A', p, q⟩ := b3 n (by omega) s hs 32 0 (n - 33) A rfl
  rw [show 32 + 1 + (n - 33) = n by omega] at p
  have p : G_ringref3_Bits_L3 n (iv s) n 0 A = some (.x0 A') := p
  have e : A' = bv s := by
    funext j
    have := q j.val j.isLt
    rw [if_pos (by omega)] at this
    unfold at_ at this
    rw [dif_pos j.isLt] at this
    exact this
  rw [p, e]
theorem bits_any (n : Nat) (hn : 50 ≤ n) (s : Fin 32 → Nat) (hs : by8 s) : G_ringref3_Bits n (iv s) = some (bv s) := by
  unfold G_ringref3_Bits
  rw [bits_loop n hn s hs]
  rfl
end Go.Proofs.Ytiajagahghgclaa.bitsSays
