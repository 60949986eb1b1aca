/- TurnSays: how many orders there are. -/
import Derived.Test.YtnjaaekapbbalaaGuTurnSays
import Derived.Test.YtnjaaekapbbalaaMath
import Derived.Test.YtnjaaekapbbalaaLib
namespace Go.Proofs.Ytnjaaekapbbalaa.pv
set_option linter.all false
open Go.RowKit help
namespace ts

/-- times (a+1) .. (a+n), through 1 .. n, step by step -/
def cl1 (o a : Nat) : Nat → Nat
  | 0 => o
  | n + 1 => cl1 o a n * (a + n + 1) / (n + 1)
def S (x : Nat → Nat) : Nat → Nat
  | 0 => 0
  | m + 1 => S x m + x m
def Pr (x : Nat → Nat) : Nat → Nat
  | 0 => 1
  | m + 1 => cl1 (Pr x m) (S x m) (x m)
/-- orders of x 0 .. x 3 steps -/
def N (x : Nat → Nat) : Nat := Pr x 4
def NN (a b c d : Nat) : Nat := cl1 (cl1 (cl1 (cl1 1 0 a) a b) (a + b) c) (a + b + c) d
theorem N_eq (x : Nat → Nat) : N x = NN (x 0) (x 1) (x 2) (x 3) := by
  simp only [N, Pr, S, NN, Nat.zero_add]
def chk : Bool := (List.range 13).all fun a => (List.range (13 - a)).all fun b => (List.range (13 - a - b)).all fun c => (List.range (13 - a - b - c)).all fun d =>
  Nat.beq (a + b + c + d) 0 || Nat.beq (NN a b c d) ((bif Nat.blt 0 a then NN (a - 1) b c d else 0) + (bif Nat.blt 0 b then NN a (b - 1) c d else 0) + (bif Nat.blt 0 c then NN a b (c - 1) d else 0) + (bif Nat.blt 0 d then NN a b c (d - 1) else 0))
theorem chk_ok : chk = true := by kernel_rfl
theorem cond_ite {c : Prop} [Decidable c] {b : Bool} (h : b = decide c) {α : Type} (x y : α) : (bif b then x else y) = if c then x else y := by
  subst h; by_cases hc : c <;> simp [hc]
theorem NN_rec (a b c d : Nat) (h : a + b + c + d ≤ 12) (h0 : 0 < a + b + c + d) :
    NN a b c d = (if 0 < a then NN (a - 1) b c d else 0) + (if 0 < b then NN a (b - 1) c d else 0) + (if 0 < c then NN a b (c - 1) d else 0) + (if 0 < d then NN a b c (d - 1) else 0) := by
  have k := chk_ok
  unfold chk at k
  rw [List.all_eq_true] at k
  have k1 := k a (List.mem_range.2 (by omega))
  rw [List.all_eq_true] at k1
  have k2 := k1 b (List.mem_range.2 (by omega))
  rw [List.all_eq_true] at k2
  have k3 := k2 c (List.mem_range.2 (by omega))
  rw [List.all_eq_true] at k3
  have k4 := k3 d (List.mem_range.2 (by omega))
  rw [Bool.or_eq_true] at k4
  rcases k4 with k4 | k4
  · have := Nat.eq_of_beq_eq_true k4; omega
  · have := Nat.eq_of_beq_eq_true k4
    have e : ∀ q : Nat, Nat.blt 0 q = decide (0 < q) := fun q => by
      cases q <;> rfl
    rw [cond_ite (e a), cond_ite (e b), cond_ite (e c), cond_ite (e d)] at this
    exact this
def dec (x : Nat → Nat) (i : Nat) : Nat → Nat := fun j => if j = i then x j - 1 else x j
/-- those that begin with i -/
def t (x : Nat → Nat) (i : Nat) : Nat := if 0 < x i then N (dec x i) else 0
def Tt (x : Nat → Nat) : Nat → Nat
  | 0 => 0
  | m + 1 => Tt x m + t x m
theorem N_rec (x : Nat → Nat) (h : S x 4 ≤ 12) (h0 : 0 < S x 4) : N x = Tt x 4 := by
  have e : S x 4 = x 0 + x 1 + x 2 + x 3 := by simp only [S, Nat.zero_add]
  have := NN_rec (x 0) (x 1) (x 2) (x 3) (by omega) (by omega)
  rw [N_eq, this]
  simp only [Tt, t, N_eq, dec, Nat.zero_add]
  simp
theorem cl1_le {o a : Nat} : ∀ {n : Nat}, a + n ≤ 12 → cl1 o a n ≤ o * 13 ^ n
  | 0, _ => by simp [cl1]
  | n + 1, h => by
    have ih := cl1_le (o := o) (a := a) (n := n) (by omega)
    rw [cl1]
    have h1 : cl1 o a n * (a + n + 1) / (n + 1) ≤ cl1 o a n * (a + n + 1) := Nat.div_le_self _ _
    have h2 : cl1 o a n * (a + n + 1) ≤ (o * 13 ^ n) * 13 := Nat.mul_le_mul ih (by omega)
    rw [Nat.pow_succ, ← Nat.mul_assoc]
    omega
theorem S_le {x : Nat → Nat} {m k : Nat} (h : m ≤ k) : S x m ≤ S x k := by
  induction h with
  | refl => exact Nat.le_refl _
  | step _ ih => rw [S]; omega
theorem Pr_le {x : Nat → Nat} : ∀ {m : Nat}, S x m ≤ 12 → Pr x m ≤ 13 ^ S x m
  | 0, _ => by simp [Pr, S]
  | m + 1, h => by
    have hs : S x (m + 1) = S x m + x m := rfl
    have ih := Pr_le (x := x) (m := m) (by omega)
    have h1 := cl1_le (o := Pr x m) (a := S x m) (n := x m) (by omega)
    have h2 : Pr x m * 13 ^ x m ≤ 13 ^ S x m * 13 ^ x m := Nat.mul_le_mul_right _ ih
    rw [hs, Nat.pow_add]
    exact Nat.le_trans h1 h2
theorem pow_le12 {k : Nat} (h : k ≤ 12) : 13 ^ k ≤ 23298085122481 := Nat.le_trans (Nat.pow_le_pow_right (by omega) h) (by decide)
theorem N_le {x : Nat → Nat} (h : S x 4 ≤ 12) : N x ≤ 23298085122481 := Nat.le_trans (Pr_le h) (pow_le12 h)
theorem cl1_zero {o a : Nat} : cl1 o a 0 = o := rfl
/-- steps of those from m on are none -/
theorem Pr_stop {x : Nat → Nat} {m : Nat} (h : ∀ j, m ≤ j → x j = 0) : ∀ k, m ≤ k → Pr x k = Pr x m ∧ S x k = S x m := by
  intro k hk
  induction hk with
  | refl => exact ⟨rfl, rfl⟩
  | step hk ih =>
    rw [Pr, S, h _ hk, ih.1, ih.2]
    exact ⟨rfl, rfl⟩
theorem dec_S {x : Nat → Nat} {i : Nat} (h : 0 < x i) : ∀ m, S (dec x i) m + (if i < m then 1 else 0) = S x m
  | 0 => by simp [S]
  | m + 1 => by
    have ih := dec_S h m
    rw [S, S]
    by_cases e : m = i
    · subst e
      have : dec x m m = x m - 1 := by simp [dec]
      rw [this]
      rw [if_neg (by omega)] at ih
      rw [if_pos (by omega)]
      omega
    · have : dec x i m = x m := by simp [dec, e]
      rw [this]
      by_cases h2 : i < m
      · rw [if_pos h2] at ih; rw [if_pos (by omega)]; omega
      · rw [if_neg h2] at ih; rw [if_neg (by omega)]; omega
theorem t_le {x : Nat → Nat} {i : Nat} (h : S x 4 ≤ 12) : t x i ≤ 23298085122481 := by
  unfold t
  by_cases h0 : 0 < x i
  · rw [if_pos h0]
    have := dec_S h0 4
    exact N_le (by omega)
  · rw [if_neg h0]; omega
theorem Tt_le {x : Nat → Nat} (h : S x 4 ≤ 12) : ∀ m, Tt x m ≤ m * 23298085122481
  | 0 => by simp [Tt]
  | m + 1 => by
    have ih := Tt_le h m
    have := t_le (i := m) h
    rw [Tt]; omega

/-- what the program counts -/
theorem count1 (n : Nat) (l : List Int) (q : Int) (o a y : Nat) (h : a + y ≤ 12) (ho : o * 13 ^ y ≤ 23298085122481) : ∀ (k j : Nat), y - j < k → j ≤ y →
    G_turn_count_L1 n (y : Int) l q k (cl1 o a j : Int) ((a + j : Nat) : Int) ((j + 1 : Nat) : Int) = some (.x0 (cl1 o a y : Int) ((a + y : Nat) : Int))
  | 0, j, hk, _ => by omega
  | k + 1, j, hk, hj => by
    unfold G_turn_count_L1
    by_cases h1 : j < y
    · have b1 := cl1_le (o := o) (a := a) (n := j) (by omega)
      have b2 : o * 13 ^ j ≤ o * 13 ^ y := Nat.mul_le_mul_left _ (Nat.pow_le_pow_right (by omega) (by omega))
      have b3 : cl1 o a j * (a + j + 1) ≤ 23298085122481 * 13 := Nat.mul_le_mul (by omega) (by omega)
      have e2 : (cl1 o a j : Int) * ((a + j + 1 : Nat) : Int) = ((cl1 o a j * (a + j + 1) : Nat) : Int) := by rw [Int.natCast_mul]
      rw [if_pos (by omega), if_pos (by omega), wi_succ (i := a + j) (by omega), wi_succ (i := j + 1) (by omega), e2, wi64 (by omega) (by omega), quo_i64 (by omega) (by omega) (by omega), ← Int.natCast_ediv]
      have ih := count1 n l q o a y h ho k (j + 1) (by omega) (by omega)
      rw [cl1] at ih
      exact ih
    · have : j = y := by omega
      subst this
      rw [if_neg (by omega)]
/-- a list of numbers of steps -/
def lst (m : Nat) (x : Nat → Nat) : List Int := (List.range m).map fun i => (x i : Int)
theorem lst_len {m : Nat} {x : Nat → Nat} : (lst m x).length = m := by simp [lst]
theorem lst_get {m i : Nat} {x : Nat → Nat} (h : i < m) : (lst m x)[i]? = some (x i : Int) := by
  simp [lst, List.getElem?_range h]
theorem lst_set {m i v : Nat} {x y : Nat → Nat} (h : ∀ j, j < m → y j = if j = i then v else x j) : (lst m x).set i (v : Int) = lst m y := by
  apply List.ext_getElem?
  intro j
  rw [List.getElem?_set]
  by_cases hj : j < m
  · rw [lst_get (x := y) hj, h j hj]
    by_cases e : i = j
    · rw [if_pos e, if_pos (by rw [lst_len]; omega), if_pos e.symm]
    · rw [if_neg e, if_neg (fun q => e q.symm), lst_get hj]
  · have e1 : (lst m x)[j]? = none := List.getElem?_eq_none (by rw [lst_len]; omega)
    have e2 : (lst m y)[j]? = none := List.getElem?_eq_none (by rw [lst_len]; omega)
    rw [e1, e2]
    split
    · rename_i e; rw [if_neg (by rw [lst_len]; omega)]
    · rfl
theorem count2 (n : Nat) (hn : 20 < n) (x : Nat → Nat) (m : Nat) (hm : m ≤ 4) (h : S x m ≤ 12) : ∀ (k i : Nat), m - i < k → i ≤ m →
    G_turn_count_L2 n (lst m x) k (Pr x i : Int) (S x i : Int) (i : Int) = some (.x0 (Pr x m : Int))
  | 0, i, hk, _ => by omega
  | k + 1, i, hk, hi => by
    unfold G_turn_count_L2
    by_cases h1 : i < m
    · have hs : S x (i + 1) = S x i + x i := rfl
      have hs2 := S_le (x := x) (show i + 1 ≤ m by omega)
      have b := Pr_le (x := x) (m := i) (by omega)
      have b2 : Pr x i * 13 ^ x i ≤ 13 ^ S x i * 13 ^ x i := Nat.mul_le_mul_right _ b
      rw [← Nat.pow_add] at b2
      have b3 := pow_le12 (k := S x i + x i) (by omega)
      have c := count1 n (lst m x) (i : Int) (Pr x i) (S x i) (x i) (by omega) (by omega) n 0 (by omega) (by omega)
      have c : G_turn_count_L1 n (x i : Int) (lst m x) (i : Int) n (Pr x i : Int) (S x i : Int) 1 = _ := c
      rw [if_pos (by rw [lst_len]; omega), getI_nat, lst_get h1, Option.bind_some, c, Option.bind_some, wi_succ (by omega)]
      exact count2 n hn x m hm h k (i + 1) (by omega) (by omega)
    · have : i = m := by omega
      subst this
      rw [if_neg (by rw [lst_len]; omega)]
theorem count_ok (n : Nat) (hn : 20 < n) (x : Nat → Nat) (m : Nat) (hm : m ≤ 4) (hx : ∀ j, m ≤ j → x j = 0) (h : S x 4 ≤ 12) : G_turn_count n (lst m x) = some (N x : Int) := by
  have p := Pr_stop hx 4 hm
  unfold G_turn_count
  have c := count2 n hn x m hm (by omega) n 0 (by omega) (by omega)
  have c : G_turn_count_L2 n (lst m x) n 1 0 0 = _ := c
  rw [c, Option.bind_some]
  show some (Pr x m : Int) = some (Pr x 4 : Int)
  rw [p.1]
end ts
end Go.Proofs.Ytnjaaekapbbalaa.pv
