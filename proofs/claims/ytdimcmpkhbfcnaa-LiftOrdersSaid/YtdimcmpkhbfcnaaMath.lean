/- Plain lemmas on numbers of a kind, lists and the functions of XQo. -/
import Derived.Test.YtdimcmpkhbfcnaaQr
namespace Go.Proofs.Ytdimcmpkhbfcnaa.pv
set_option linter.all false
open Go.RowKit help

theorem wi64 {x : Int} (h1 : -9223372036854775808 ≤ x) (h2 : x ≤ 9223372036854775807) : wi .i64 x = x := by rw [wi, IntKind.wrap_i64]; omega
theorem wu32 {x : Int} (h1 : 0 ≤ x) (h2 : x ≤ 4294967295) : wi .u32 x = x := by rw [wi, IntKind.wrap_u32]; omega
theorem wu8 {x : Int} (h1 : 0 ≤ x) (h2 : x ≤ 255) : wi .u8 x = x := by rw [wi, IntKind.wrap_u8]; omega
theorem wf64 {a : Int} : (Lit.int .i64 a).wf = true ↔ -9223372036854775808 ≤ a ∧ a ≤ 9223372036854775807 := by simp [Lit.wf, IntKind.min, IntKind.max, IntKind.bits, IntKind.signed]
theorem wf32 {a : Int} : (Lit.int .u32 a).wf = true ↔ 0 ≤ a ∧ a ≤ 4294967295 := by simp [Lit.wf, IntKind.min, IntKind.max, IntKind.bits, IntKind.signed]
theorem wf8 {a : Int} : (Lit.int .u8 a).wf = true ↔ 0 ≤ a ∧ a ≤ 255 := by simp [Lit.wf, IntKind.min, IntKind.max, IntKind.bits, IntKind.signed]
theorem shr_i64 {a : Int} (k : Nat) (hk : k ≤ 64) : shrI .i64 a (k : Int) = a / 2 ^ k := by
  simp only [shrI, IntKind.bits, Int.toNat_natCast, Nat.min_eq_left hk]
  exact Int.fdiv_eq_ediv_of_nonneg _ (Int.le_of_lt (Int.pow_pos (by decide)))
theorem shr_u32 {a : Int} (k : Nat) (hk : k ≤ 32) : shrI .u32 a (k : Int) = a / 2 ^ k := by
  simp only [shrI, IntKind.bits, Int.toNat_natCast, Nat.min_eq_left hk]
  exact Int.fdiv_eq_ediv_of_nonneg _ (Int.le_of_lt (Int.pow_pos (by decide)))
theorem shl_u32 {a : Int} (k : Nat) (hk : k ≤ 32) : shlI .u32 a (k : Int) = (a * 2 ^ k) % 4294967296 := by
  simp [shlI, IntKind.bits, Nat.min_eq_left hk, IntKind.wrap_u32]
theorem quo_i64 {a b : Int} (ha : 0 ≤ a) (hb : 0 < b) (h : a ≤ 9223372036854775807) : quoI .i64 a b = a / b := by
  have h1 : a.tdiv b = a / b := Int.tdiv_eq_ediv_of_nonneg ha
  have h2 : 0 ≤ a / b := Int.ediv_nonneg ha (by omega)
  have h3 : a / b ≤ a := Int.ediv_le_self _ ha
  unfold quoI
  rw [h1]
  exact wi64 (by omega) (by omega)
theorem rem_nn {a b : Int} (ha : 0 ≤ a) : remI a b = a % b := Int.tmod_eq_emod_of_nonneg ha
theorem getI_nat {α : Type} (l : List α) (i : Nat) : getI l (i : Int) = l[i]? := by
  unfold getI
  rw [if_pos (by omega)]; simp
theorem wi_succ {i : Nat} (h : i < 4611686018427387904) : wi .i64 ((i : Int) + 1) = ((i + 1 : Nat) : Int) := by rw [wi64 (by omega) (by omega)]; simp
theorem drop_cons {α : Type} {l : List α} {i : Nat} {x : α} (h : l[i]? = some x) : l.drop i = x :: l.drop (i + 1) := by
  obtain ⟨h1, rfl⟩ := List.getElem?_eq_some_iff.1 h
  exact List.drop_eq_getElem_cons h1
theorem drop_end {α : Type} {l : List α} {i : Nat} (h : ¬ (i : Int) < (l.length : Int)) : l.drop i = [] := List.drop_eq_nil_of_le (by omega)
theorem get_lt {α : Type} {l : List α} {i : Nat} (h : (i : Int) < (l.length : Int)) : ∃ x, l[i]? = some x := ⟨l[i]'(by omega), List.getElem?_eq_getElem (by omega)⟩
theorem app_some {α : Type} {b : Nat} {xs ys : List α} (h1 : xs.length + ys.length ≤ 1000000) (h2 : b ≤ 100000) : app b xs ys = some (xs ++ ys) := by
  unfold app
  have : (xs.length + ys.length) * b ≤ 1000000 * 100000 := Nat.mul_le_mul h1 h2
  rw [if_pos ⟨by unfold maxLen; omega, by omega⟩]
theorem or_bit (i : Nat) (y : Int) (h0 : 0 ≤ y) (h1 : y < 1000000) (hi : i ≤ 4) (hy : y / 2 ^ i % 2 = 0) : bits .or .u32 y (2 ^ i) = y + 2 ^ i := by
  obtain ⟨Y, rfl⟩ := Int.eq_ofNat_of_zero_le h0
  have e : ((2 : Int) ^ i) = ((2 ^ i : Nat) : Int) := by simp
  have hp : (2 : Nat) ^ i ≤ 2 ^ 4 := Nat.pow_le_pow_right (by omega) hi
  rw [e, u32_or_nat _ _ (by omega) (by omega)]
  have hb : Y / 2 ^ i % 2 = 0 := by
    rw [e] at hy
    have : ((Y / 2 ^ i % 2 : Nat) : Int) = 0 := by rw [← hy]; simp
    omega
  have h2 := or_add_and Y (2 ^ i)
  have h3 : Y &&& 2 ^ i = 0 := by rw [nat_bit, hb]; simp
  omega
theorem and_bit (i : Nat) (x : Int) (h0 : 0 ≤ x) (h1 : x ≤ 4294967295) (hi : i ≤ 4) : (bits .and .u32 x (2 ^ i) != 0) = (x / 2 ^ i % 2 == 1) := by
  obtain ⟨X, rfl⟩ := Int.eq_ofNat_of_zero_le h0
  have e : ((2 : Int) ^ i) = ((2 ^ i : Nat) : Int) := by simp
  have hp : (2 : Nat) ^ i ≤ 2 ^ 4 := Nat.pow_le_pow_right (by omega) hi
  have hq : 0 < (2 : Nat) ^ i := Nat.pos_of_ne_zero (by simp)
  rw [e, u32_and_nat _ _ (by omega) (by omega), nat_bit]
  have e2 : ((X : Int) / ((2 ^ i : Nat) : Int) % 2) = ((X / 2 ^ i % 2 : Nat) : Int) := by simp
  rw [e2]
  have m : X / 2 ^ i % 2 < 2 := Nat.mod_lt _ (by omega)
  generalize X / 2 ^ i % 2 = y at *
  generalize 2 ^ i = p at *
  have : y = 0 ∨ y = 1 := by omega
  rcases this with rfl | rfl
  · simp
  · simp; omega
theorem and_7 (x : Int) (h0 : 0 ≤ x) (h1 : x ≤ 4294967295) : bits .and .u32 x 7 = x % 8 := by
  obtain ⟨X, rfl⟩ := Int.eq_ofNat_of_zero_le h0
  rw [show (7 : Int) = ((7 : Nat) : Int) from rfl, u32_and_nat _ _ (by omega) (by omega), nat_mask3]
  simp
end Go.Proofs.Ytdimcmpkhbfcnaa.pv
