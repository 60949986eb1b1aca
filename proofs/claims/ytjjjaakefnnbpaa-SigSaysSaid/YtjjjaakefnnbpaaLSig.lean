/- SigSays: bits and lists of signals. -/
import Derived.Test.YtjjjaakefnnbpaaSoSig
import Derived.Test.YtjjjaakefnnbpaaSpSig
namespace Go.Proofs.Ytjjjaakefnnbpaa.pv
set_option linter.all false
open Go.RowKit help

theorem delf_loop (n : Nat) (f : Int → Option Bool) (p : Int → Bool) (xs : List Int) (hf : ∀ y ∈ xs, f y = some (p y)) (hl : xs.length < 1000000) : ∀ (k i j : Nat) (w : List Int), xs.length - j < k → i ≤ j → j ≤ xs.length → w.length = xs.length → w.drop j = xs.drop j → w.take i = (xs.take j).filter (fun y => !p y) →
    ∃ (i' : Nat) (w' : List Int), G_slices_DeleteFunc_int_int_h_L1 n f k (i : Int) (j : Int) w = some (.x0 (i' : Int) w') ∧ i' ≤ w'.length ∧ w'.length = xs.length ∧ w'.take i' = xs.filter (fun y => !p y)
  | 0, i, j, w, h, _, _, _, _, _ => by omega
  | k + 1, i, j, w, h, hij, hj, hw, hd, ht => by
    rw [G_slices_DeleteFunc_int_int_h_L1]
    by_cases h1 : j < xs.length
    · have hjw : j < w.length := by omega
      have hyx : xs[j]? = some xs[j] := List.getElem?_eq_getElem h1
      have hy : w[j]? = some xs[j] := by
        have e := congrArg (fun l : List Int => l[0]?) hd
        simp only [List.getElem?_drop, Nat.add_zero] at e
        rw [e, hyx]
      rw [if_pos (by omega), if_pos ⟨by omega, by simpa using hjw⟩, Int.toNat_natCast, hy, Option.bind_some, hf _ (List.getElem_mem h1), Option.bind_some, wi_succ (i := j) (by omega)]
      have hdrop : w.drop (j + 1) = xs.drop (j + 1) := by
        have e := congrArg (List.drop 1) hd
        simpa [List.drop_drop] using e
      have htk : xs.take (j + 1) = xs.take j ++ [xs[j]] := List.take_succ_eq_append_getElem h1
      by_cases h2 : p xs[j] = true
      · rw [if_pos h2]
        exact delf_loop n f p xs hf hl k i (j + 1) w (by omega) (by omega) (by omega) hw hdrop (by rw [htk, List.filter_append, ht]; simp [h2])
      · have hiw : i < w.length := by omega
        rw [if_neg h2, if_pos ⟨by omega, by simpa using hiw⟩, Int.toNat_natCast, List.getElem?_eq_getElem hiw, Option.bind_some, wi_succ (i := i) (by omega)]
        refine delf_loop n f p xs hf hl k (i + 1) (j + 1) _ (by omega) (by omega) (by omega) (by simpa using hw) ?_ ?_
        · rw [List.drop_set_of_lt (by omega), hdrop]
        · have hi2 : i < (w.set i xs[j]).length := by simpa using hiw
          rw [List.take_succ_eq_append_getElem hi2, List.take_set_of_le (Nat.le_refl i), ht, htk, List.filter_append, List.getElem_set_self]
          simp [h2]
    · rw [if_neg (by omega)]
      have e : xs.take j = xs := List.take_of_length_le (by omega)
      rw [e] at ht
      exact ⟨i, w, rfl, by omega, hw, ht⟩
/-- slices.DeleteFunc takes out what the function says -/
theorem delf_any (n : Nat) (f : Int → Option Bool) (p : Int → Bool) (xs : List Int) (hf : ∀ y ∈ xs, f y = some (p y)) (hl : xs.length < 1000000) (hn : xs.length < n) : G_slices_DeleteFunc_int_int_h n xs f = some (xs.filter (fun y => !p y)) := by
  unfold G_slices_DeleteFunc_int_int_h
  rw [G_slices_IndexFunc_int_int_sp p hf (by omega) hn, Option.bind_some]
  rcases findI_cases p xs with ⟨h1, h2⟩ | ⟨j, x, h1, h2, h3, h4⟩
  · rw [h1, if_pos rfl]
    congr 1
    symm
    rw [List.filter_eq_self]
    intro a ha
    simp [h2 a ha]
  · obtain ⟨hj, rfl⟩ := List.getElem?_eq_some_iff.1 h2
    rw [h1, if_neg (by omega), wi_succ (i := j) (by omega)]
    have hpre : xs.take j = (xs.take j).filter (fun y => !p y) := by
      symm
      rw [List.filter_eq_self]
      intro a ha
      obtain ⟨i, hi, rfl⟩ := List.mem_take_iff_getElem.1 ha
      have := h4 i xs[i] (by omega) (List.getElem?_eq_getElem (by omega))
      simp [this]
    obtain ⟨i', w', q1, q2, q3, q4⟩ := delf_loop n f p xs hf hl n j (j + 1) xs (by omega) (by omega) (by omega) rfl rfl (by rw [List.take_succ_eq_append_getElem hj, List.filter_append, ← hpre]; simp [h3])
    rw [q1, Option.bind_some]
    simp only []
    rw [if_pos ⟨by omega, by omega⟩, if_pos ⟨by omega, by omega⟩]
    have hs : sub (clrR w' ((i' : Nat) : Int).toNat w'.length 0) 0 (i' : Int) = some (w'.take i') := by
      unfold sub
      rw [Int.toNat_natCast, if_pos ⟨by omega, by omega, by rw [clrR_len q2 (Nat.le_refl _)]; omega⟩]
      congr 1
      unfold clrR
      rw [show (0 : Int).toNat = 0 from rfl, List.drop_zero, List.append_assoc]
      exact List.take_left' (by simp; omega)
    rw [hs, q4]; rfl
theorem tb_one (X k : Nat) : (X / 2 ^ k) &&& 1 = if X.testBit k then 1 else 0 := by
  rw [Nat.and_one_is_mod, Nat.testBit_eq_decide_div_mod_eq]
  by_cases h : X / 2 ^ k % 2 = 1
  · simp [h]
  · have : X / 2 ^ k % 2 = 0 := by omega
    simp [this]
theorem bit_any (X k : Nat) (hX : X < 65536) (hk : k ≤ 16) : bits .and .i64 (shrI .i64 (X : Int) (k : Int)) 1 = if X.testBit k then 1 else 0 := by
  have e : ((X : Int) / 2 ^ k) = ((X / 2 ^ k : Nat) : Int) := by simp
  have hle : X / 2 ^ k ≤ X := Nat.div_le_self _ _
  rw [shr_i64 k (by omega), e, show (1 : Int) = ((1 : Nat) : Int) from rfl, i64_and_nat _ _ (by omega) (by omega), tb_one]
  split <;> rfl
theorem shl1 (k : Nat) (hk : k ≤ 16) : shlI .i64 1 (k : Int) = ((2 ^ k : Nat) : Int) := by
  have h2 : (2 : Nat) ^ k ≤ 2 ^ 16 := Nat.pow_le_pow_right (by omega) hk
  have e : (1 : Int) * 2 ^ k = ((2 ^ k : Nat) : Int) := by simp
  simp only [shlI, IntKind.bits, Int.toNat_natCast, Nat.min_eq_left (show k ≤ 64 by omega), e]
  generalize 2 ^ k = y at *
  exact wi64 (by omega) (by omega)
theorem tb_not (y i : Nat) (hy : y < 18446744073709551616) (hi : i < 64) : (18446744073709551615 - y).testBit i = !y.testBit i := by
  have h := Nat.testBit_two_pow_sub_succ (x := y) (n := 64) (by omega) i
  have e : 2 ^ 64 - (y + 1) = 18446744073709551615 - y := by omega
  rw [e] at h
  rw [h]; simp [hi]
theorem tb_andNot (X y i : Nat) (hX : X < 65536) (hy : y < 18446744073709551616) : (X &&& (18446744073709551615 - y)).testBit i = (X.testBit i && !y.testBit i) := by
  rw [Nat.testBit_and]
  by_cases hi : i < 64
  · rw [tb_not y i hy hi]
  · have : X.testBit i = false := Nat.testBit_lt_two_pow (Nat.lt_of_lt_of_le hX (by
      have : (2 : Nat) ^ 16 ≤ 2 ^ i := Nat.pow_le_pow_right (by omega) (by omega)
      omega))
    simp [this]
theorem K_hi : ∀ i : Fin 64, 16 ≤ i.1 → (18446744073709486081 : Nat).testBit i.1 = true := by decide +kernel
theorem K_lo : ∀ i : Fin 16, 1 ≤ i.1 → (18446744073709486081 : Nat).testBit i.1 = false := by decide +kernel
theorem K_0 : (18446744073709486081 : Nat).testBit 0 = true := by decide +kernel
theorem and_K (X : Nat) (hX : X < 18446744073709551616) : X &&& 18446744073709486081 = 0 ↔ (X < 65536 ∧ X % 2 = 0) := by
  constructor
  · intro h
    have hb : ∀ i, (X.testBit i && (18446744073709486081 : Nat).testBit i) = false := fun i => by rw [← Nat.testBit_and, h, Nat.zero_testBit]
    constructor
    · refine Nat.lt_pow_two_of_testBit (n := 16) X (fun i hi => ?_)
      by_cases h64 : i < 64
      · have := hb i
        rw [K_hi ⟨i, h64⟩ hi] at this
        simpa using this
      · refine Nat.testBit_lt_two_pow (Nat.lt_of_lt_of_le hX ?_)
        have : (2 : Nat) ^ 64 ≤ 2 ^ i := Nat.pow_le_pow_right (by omega) (by omega)
        omega
    · have := hb 0
      rw [K_0, Nat.testBit_zero] at this
      simp at this
      omega
  · rintro ⟨h1, h2⟩
    refine Nat.eq_of_testBit_eq (fun i => ?_)
    rw [Nat.testBit_and, Nat.zero_testBit]
    by_cases h16 : i < 16
    · by_cases h0 : 1 ≤ i
      · rw [K_lo ⟨i, h16⟩ h0]; simp
      · have : i = 0 := by omega
        subst this
        rw [Nat.testBit_zero]
        simp; omega
    · have : X.testBit i = false := Nat.testBit_lt_two_pow (Nat.lt_of_lt_of_le h1 (by
        have : (2 : Nat) ^ 16 ≤ 2 ^ i := Nat.pow_le_pow_right (by omega) (by omega)
        omega))
      simp [this]
theorem okbits (p : Int) (h1 : -9223372036854775808 ≤ p) (h2 : p ≤ 9223372036854775807) : bits .andNot .i64 p 65534 = 0 ↔ (0 ≤ p ∧ p ≤ 65535 ∧ p % 2 = 0) := by
  have e : bits .andNot .i64 p 65534 = IntKind.i64.wrap (((BitVec.ofInt 64 p).toNat &&& 18446744073709486081 : Nat) : Int) := by
    show IntKind.i64.wrap ((BitVec.ofInt 64 p &&& ~~~(BitVec.ofInt 64 65534)).toNat : Int) = _
    rw [BitVec.toNat_and]
    rfl
  have hx : (BitVec.ofInt 64 p).toNat < 18446744073709551616 := (BitVec.ofInt 64 p).isLt
  have hv : ((BitVec.ofInt 64 p).toNat : Int) = p % 18446744073709551616 := by
    rw [BitVec.toNat_ofInt]
    have : (0 : Int) ≤ p % ((2 ^ 64 : Nat) : Int) := Int.emod_nonneg _ (by decide)
    rw [Int.toNat_of_nonneg this]; rfl
  have hk := and_K _ hx
  have hle : (BitVec.ofInt 64 p).toNat &&& 18446744073709486081 ≤ 18446744073709486081 := Nat.and_le_right
  rw [e, IntKind.wrap_i64]
  generalize (BitVec.ofInt 64 p).toNat = X at *
  generalize X &&& 18446744073709486081 = Z at *
  constructor
  · intro h
    have : Z = 0 := by omega
    have := hk.1 this
    omega
  · intro h
    have : Z = 0 := hk.2 (by omega)
    subst this; rfl
/-- the numbers of the bits of X -/
def nums (X : Nat) : List Nat := (List.range' 1 15).filter fun k => X.testBit k
def ints (L : List Nat) : List Int := List.map (fun k : Nat => (k : Int)) L
/-- the bits of a list of numbers -/
def bs (L : List Nat) : Nat := (L.map fun k => 2 ^ k).sum
theorem ints_len (L : List Nat) : (ints L).length = L.length := by simp [ints]
theorem ints_get (L : List Nat) (i : Nat) : (ints L)[i]? = (L[i]?).map (fun k : Nat => (k : Int)) := by simp [ints]
theorem nums_mem {X k : Nat} : k ∈ nums X ↔ 1 ≤ k ∧ k < 16 ∧ X.testBit k = true := by
  unfold nums
  rw [List.mem_filter, List.mem_range'_1]
  constructor
  · rintro ⟨⟨a, b⟩, c⟩; exact ⟨a, by omega, c⟩
  · rintro ⟨a, b, c⟩; exact ⟨⟨a, by omega⟩, c⟩
theorem nums_len (X : Nat) : (nums X).length ≤ 15 := by
  have := List.length_filter_le (fun k => X.testBit k) (List.range' 1 15)
  simpa [nums] using this
theorem ints_mem {L : List Nat} {k : Nat} : (k : Int) ∈ ints L ↔ k ∈ L := by
  unfold ints
  rw [List.mem_map]
  constructor
  · rintro ⟨a, h1, h2⟩
    have : a = k := by omega
    subst this; exact h1
  · intro h; exact ⟨k, h, rfl⟩
theorem bs_app (L K : List Nat) : bs (L ++ K) = bs L + bs K := by simp [bs, List.sum_append]
theorem bs_cons (k : Nat) (L : List Nat) : bs (k :: L) = 2 ^ k + bs L := by simp [bs]
theorem bs_perm {L K : List Nat} (h : L.Perm K) : bs L = bs K := (h.map _).sum_nat
theorem bs_pre (X : Nat) (h : X % 2 = 0) : ∀ m, bs ((List.range' 1 m).filter fun k => X.testBit k) = X % 2 ^ (m + 1)
  | 0 => by simp [bs]; omega
  | m + 1 => by
    rw [List.range'_concat, List.filter_append, bs_app, bs_pre X h m, Nat.mod_pow_succ (x := X) (b := 2) (k := m + 1), show 1 + 1 * m = m + 1 by omega]
    simp only [List.filter_cons, List.filter_nil]
    have hb := Nat.testBit_eq_decide_div_mod_eq (x := X) (i := m + 1)
    by_cases hd : X / 2 ^ (m + 1) % 2 = 1
    · rw [hb, hd]; simp [bs]
    · have hd' : X / 2 ^ (m + 1) % 2 = 0 := by omega
      rw [hb, hd']; simp [bs]
theorem bs_nums {X : Nat} (h : X % 2 = 0) (hX : X < 65536) : bs (nums X) = X := by
  unfold nums
  rw [bs_pre X h 15]
  exact Nat.mod_eq_of_lt hX
theorem bs_le : ∀ (L : List Nat) (_ : ∀ k ∈ L, k < 16), bs L ≤ 32768 * L.length
  | [], _ => by simp [bs]
  | k :: L, h => by
    have h1 := bs_le L (fun x hx => h x (List.mem_cons_of_mem _ hx))
    have h2 : 2 ^ k ≤ 2 ^ 15 := Nat.pow_le_pow_right (by omega) (by have := h k (List.mem_cons_self ..); omega)
    rw [bs_cons, List.length_cons]
    omega
theorem bits_loop (n : Nat) (L : List Nat) (hl : L.length ≤ 20) (hb : ∀ k ∈ L, k < 16) : ∀ (k i : Nat) (acc : Nat), L.length - i < k → i ≤ L.length → acc + bs (L.drop i) ≤ 32768 * 20 →
    G_ringref5_BitsOf_L1 n (ints L) k (acc : Int) (i : Int) = some (.x0 ((acc + bs (L.drop i) : Nat) : Int))
  | 0, i, acc, h, _, _ => by omega
  | k + 1, i, acc, h, hi, ha => by
    rw [G_ringref5_BitsOf_L1]
    by_cases h1 : i < L.length
    · have hd : L.drop i = L[i] :: L.drop (i + 1) := List.drop_eq_getElem_cons h1
      have e : bs (L.drop i) = 2 ^ L[i] + bs (L.drop (i + 1)) := by rw [hd, bs_cons]
      have hlt := hb L[i] (List.getElem_mem h1)
      rw [if_pos (by rw [ints_len]; omega), getI_nat, ints_get, List.getElem?_eq_getElem h1, Option.map_some, Option.bind_some, if_pos (by omega), shl1 _ (by omega), wi_succ (by omega)]
      have w : wi .i64 ((acc : Int) + ((2 ^ L[i] : Nat) : Int)) = ((acc + 2 ^ L[i] : Nat) : Int) := by
        rw [← Int.natCast_add]
        generalize 2 ^ L[i] = y at *
        exact wi64 (by omega) (by omega)
      rw [w, bits_loop n L hl hb k (i + 1) _ (by omega) (by omega) (by omega)]
      rw [e, Nat.add_assoc]
    · rw [if_neg (by rw [ints_len]; omega), List.drop_eq_nil_of_le (by omega)]
      simp [bs]
theorem bitsOf_any (n : Nat) (L : List Nat) (hl : L.length ≤ 20) (hb : ∀ k ∈ L, k < 16) (hn : 20 < n) : G_ringref5_BitsOf n (ints L) = some ((bs L : Nat) : Int) := by
  unfold G_ringref5_BitsOf
  have := bs_le L hb
  have h := bits_loop n L hl hb n 0 0 (by omega) (by omega) (by simp; omega)
  have h : G_ringref5_BitsOf_L1 n (ints L) n 0 0 = _ := h
  rw [h, Option.bind_some]
  simp
theorem numbers_loop (n X : Nat) (hX : X < 65536) : ∀ (k i : Nat) (w : List Int), 16 - i < k → i ≤ 16 → w.length ≤ i →
    G_ringref5_numbers_L1 n (X : Int) k (i : Int) w = some (.x0 (w ++ ints ((List.range' i (16 - i)).filter fun k => X.testBit k)))
  | 0, i, w, h, _, _ => by omega
  | k + 1, i, w, h, hi, hw => by
    rw [G_ringref5_numbers_L1]
    by_cases h1 : i < 16
    · have hr : List.range' i (16 - i) = i :: List.range' (i + 1) (16 - (i + 1)) := by
        rw [show 16 - i = (16 - (i + 1)) + 1 by omega, List.range'_succ]
      rw [if_pos (by omega), if_pos (by omega), bit_any X i hX (by omega), wi_succ (by omega), hr, List.filter_cons]
      by_cases hb : X.testBit i
      · rw [if_pos (by simp [hb]), app_some (by simp; omega) (by omega), Option.bind_some, numbers_loop n X hX k (i + 1) _ (by omega) (by omega) (by simp; omega)]
        simp [hb, ints]
      · rw [if_neg (by simp [hb]), numbers_loop n X hX k (i + 1) _ (by omega) (by omega) (by omega)]
        simp [hb]
    · have : 16 - i = 0 := by omega
      rw [if_neg (by omega), this]
      simp [ints]
theorem numbers_any (n X : Nat) (hX : X < 65536) (hn : 20 < n) : G_ringref5_numbers n (X : Int) = some (ints (nums X)) := by
  unfold G_ringref5_numbers
  have h := numbers_loop n X hX n 1 [] (by omega) (by omega) (by simp)
  have h : G_ringref5_numbers_L1 n (X : Int) n 1 [] = _ := h
  rw [h, Option.bind_some]
  rfl
end Go.Proofs.Ytjjjaakefnnbpaa.pv
