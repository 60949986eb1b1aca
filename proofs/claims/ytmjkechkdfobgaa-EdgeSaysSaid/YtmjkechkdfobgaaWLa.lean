/- Plain lemmas on what the interpreter's functions are made of: numbers, lists, maps, arrays. -/
import Derived.Test.YtmjkechkdfobgaaVFa
namespace Go.Proofs.Ytmjkechkdfobgaa.pv
set_option linter.all false
open Go.RowKit

theorem wi64 {x : Int} (h1 : -9223372036854775808 ≤ x) (h2 : x ≤ 9223372036854775807) : wi .i64 x = x := by rw [wi, IntKind.wrap_i64]; omega
theorem wu32 {x : Int} (h1 : 0 ≤ x) (h2 : x ≤ 4294967295) : wi .u32 x = x := by rw [wi, IntKind.wrap_u32]; omega
theorem wu8 {x : Int} (h1 : 0 ≤ x) (h2 : x ≤ 255) : wi .u8 x = x := by rw [wi, IntKind.wrap_u8]; omega
theorem wu32_nn (x : Int) : 0 ≤ wi .u32 x ∧ wi .u32 x ≤ 4294967295 := by rw [wi, IntKind.wrap_u32]; omega
theorem wi32_r (x : Int) : -2147483648 ≤ wi .i32 x ∧ wi .i32 x ≤ 2147483647 := by rw [wi, IntKind.wrap_i32]; omega
theorem wi_nat {i : Nat} (h : i < 4611686018427387904) : wi .i64 ((i : Int) + 1) = ((i + 1 : Nat) : Int) := by rw [wi64 (by omega) (by omega)]; simp
theorem oc_some {α β : Type} (y : β) (n : Option α) (s : β → Option α) : oc (some y) n s = s y := rfl
theorem oc_none {α β : Type} (n : Option α) (s : β → Option α) : oc none n s = n := rfl
theorem dF {p : Prop} [Decidable p] (h : ¬ p) : decide p = false := decide_eq_false h
theorem dT {p : Prop} [Decidable p] (h : p) : decide p = true := decide_eq_true h
theorem bF {a b : Int} (h : a ≠ b) : (a == b) = false := by simp [h]
theorem bT {a b : Int} (h : a = b) : (a == b) = true := by simp [h]
theorem neF {a b : Int} (h : a = b) : (a != b) = false := by simp [h]
theorem neT {a b : Int} (h : a ≠ b) : (a != b) = true := by simp [h]
theorem lget_cons0 {α : Type} (a : α) (l : List α) : lget (a :: l) 0 = some a := rfl
theorem lset_cons0 {α : Type} (a b : α) (l : List α) : lset (a :: l) 0 b = b :: l := rfl
theorem lget_of {α : Type} {l : List α} {i : Nat} {x : α} (h : l[i]? = some x) : lget l i = some x := h
theorem lget_lt {α : Type} {l : List α} {i : Nat} (h : i < l.length) : lget l i = some l[i] := List.getElem?_eq_getElem h
theorem drop_cons {α : Type} {l : List α} {i : Nat} {x : α} (h : l[i]? = some x) : l.drop i = x :: l.drop (i + 1) := by
  obtain ⟨h1, rfl⟩ := List.getElem?_eq_some_iff.1 h
  exact List.drop_eq_getElem_cons h1
theorem lget_lset {α : Type} (l : List α) (i j : Nat) (v : α) : lget (lset l i v) j = if i = j ∧ i < l.length then some v else lget l j := by
  unfold lget lset
  rw [List.getElem?_set]
  by_cases h : i = j
  · subst h
    by_cases h2 : i < l.length
    · simp [h2]
    · simp [h2]
  · simp [h]
theorem lset_len {α : Type} (l : List α) (i : Nat) (v : α) : (lset l i v).length = l.length := List.length_set
/-- maps by keys that are numbers -/
theorem mlI_nil {ν : Type} (j : Int) : mlI (ν := ν) [] j = none := rfl
theorem mlI_cons {ν : Type} (a : Int) (b : ν) (r : List (Int × ν)) (j : Int) : mlI ((a, b) :: r) j = if a = j then some b else mlI r j := by
  show (bif a == j then some b else mlI r j) = _
  by_cases h : a = j
  · rw [if_pos h, show (a == j) = true by simp [h], cond_true]
  · rw [if_neg h, show (a == j) = false by simp [h], cond_false]
theorem mpI_nil {ν : Type} (k : Int) (v : ν) : mpI [] k v = [(k, v)] := rfl
theorem mpI_cons {ν : Type} (a : Int) (b : ν) (r : List (Int × ν)) (k : Int) (v : ν) : mpI ((a, b) :: r) k v = if a = k then (a, v) :: r else (a, b) :: mpI r k v := by
  show (bif a == k then (a, v) :: r else (a, b) :: mpI r k v) = _
  by_cases h : a = k
  · rw [if_pos h, show (a == k) = true by simp [h], cond_true]
  · rw [if_neg h, show (a == k) = false by simp [h], cond_false]
theorem mlI_put {ν : Type} (D : List (Int × ν)) (k j : Int) (v : ν) : mlI (mpI D k v) j = if k = j then some v else mlI D j := by
  induction D with
  | nil => rw [mpI_nil, mlI_cons]
  | cons q r ih =>
    obtain ⟨a, b⟩ := q
    rw [mpI_cons, mlI_cons]
    by_cases h : a = k
    · subst h
      rw [if_pos rfl, mlI_cons]
      by_cases h2 : a = j
      · rw [if_pos h2, if_pos h2]
      · rw [if_neg h2, if_neg h2, if_neg h2]
    · rw [if_neg h, mlI_cons, ih]
      by_cases h2 : a = j
      · rw [if_pos h2, if_neg (by omega), if_pos h2]
      · rw [if_neg h2, if_neg h2]
theorem eqL_refl {α : Type} {f : α → α → Bool} : ∀ (l : List α), (∀ x ∈ l, f x x = true) → eqT.eqL f l l = true
  | [], _ => rfl
  | x :: r, h => by
    simp only [eqT.eqL, h x (List.mem_cons_self ..), Bool.true_and]
    exact eqL_refl r fun y hy => h y (List.mem_cons_of_mem _ hy)
theorem eqT_refl : ∀ (t : Ty), t.eqs = true → ∀ x : t.den, eqT t x x = true
  | .i _, _, x => (beq_self_eq_true (show Int from x) : _)
  | .bl, _, x => (beq_self_eq_true (show Bool from x) : _)
  | .str, _, x => (beq_self_eq_true (show List UInt8 from x) : _)
  | .un, _, _ => rfl
  | .pr a b, h, x => by
    simp only [Ty.eqs, Bool.and_eq_true] at h
    simp only [eqT, eqT_refl a h.1, eqT_refl b h.2, Bool.and_self]
  | .ar _ t, h, x => by
    simp only [Ty.eqs] at h
    simp only [eqT]
    exact eqL_refl _ fun y _ => eqT_refl t h y
  | .sl _, h, _ | .ns, h, _ | .nz _, h, _ | .vp _, h, _ | .np _ _, h, _ | .vm _, h, _ | .rf _ _, h, _ | .ep _ _ _, h, _ | .dp _ _, h, _ | .sr _, h, _ | .ss _ _, h, _ | .as _ _ _ _ _, h, _ | .cl _ _, h, _ | .ic _ _, h, _ | .tp _, h, _ | .mc _ _, h, _ | .sm _ _, h, _ | .ud, h, _ | .dead, h, _ => by cases h
theorem gA_sA {n : Nat} {α : Type} (x : Ar n α) (i j : Fin n) (v : α) : gA (sA x i v) j = if i = j then v else gA x j := by
  unfold gA sA
  simp only [List.get_eq_getElem, List.getElem_set]
  by_cases h : i = j
  · simp [h]
  · have : ¬ i.1 = j.1 := fun e => h (Fin.ext e)
    simp [h, this]
theorem gA_nA {n : Nat} {α : Type} (v : α) (j : Fin n) : gA (nA n v) j = v := by simp [gA, nA]
theorem Ar_ext {n : Nat} {α : Type} {x y : Ar n α} (h : ∀ j, gA x j = gA y j) : x = y := by
  apply Subtype.ext
  apply List.ext_getElem (by rw [x.2, y.2])
  intro i h1 h2
  have := h ⟨i, by rw [x.2] at h1; exact h1⟩
  simpa [gA] using this
theorem cpyR_len {α : Type} {l y : List α} {i j : Nat} (hij : i ≤ j) (hj : j ≤ l.length) : (cpyR l i j y).length = l.length := by
  unfold cpyR
  rcases Nat.le_total y.length (j - i) with h | h
  · rw [show Nat.min y.length (j - i) = y.length from Nat.min_eq_left h]; simp; omega
  · rw [show Nat.min y.length (j - i) = j - i from Nat.min_eq_right h]; simp; omega
theorem inb_true {j : Int} {n : Nat} (h1 : 0 ≤ j) (h2 : j < n) : inb j n = true := by unfold inb; simp; omega
theorem inb_iff {j : Int} {n : Nat} : inb j n = true ↔ 0 ≤ j ∧ j < n := ⟨inb_le, fun h => inb_true h.1 h.2⟩
theorem lenOk_true {n b : Nat} (h1 : n ≤ 1000000) (h2 : b ≤ 1000000) : lenOk n b = true := by
  have : n * b ≤ 1000000 * 1000000 := Nat.mul_le_mul h1 h2
  unfold lenOk maxLen
  simp
  omega
end Go.Proofs.Ytmjkechkdfobgaa.pv
