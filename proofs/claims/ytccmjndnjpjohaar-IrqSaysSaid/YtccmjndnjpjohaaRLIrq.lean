/- IrqSays returns true for every four numbers, every line and either way, and leaves its arguments alone. No condition. -/
import Derived.Test.YtccmjndnjpjohaaRGuIrqSays
import Derived.Test.YtccmjndnjpjohaaRMath
import Derived.ChangeOld
namespace Go.Proofs.YtccmjndnjpjohaaR.irqSays
open Go.ChangeShapes Go.WideShapes Go.ChangeAt Go.RowKit help rep pv
set_option linter.all false

def an (a b : Nat) : Nat := a &&& (18446744073709551615 - b)
theorem an_bit {a b i : Nat} (hb : b < 256) (hi : i < 64) : (an a b).testBit i = (a.testBit i && !b.testBit i) := by
  have e : 18446744073709551615 - b = 2 ^ 64 - (b + 1) := by omega
  unfold an
  rw [e, Nat.testBit_and, Nat.testBit_two_pow_sub_succ (by omega)]
  simp [hi]
theorem hi_bit {a i : Nat} (ha : a < 256) (hi : 8 ≤ i) : a.testBit i = false :=
  Nat.testBit_lt_two_pow (Nat.lt_of_lt_of_le ha (by have := Nat.pow_le_pow_right (n := 2) (by omega) hi; omega))
theorem an_lt {a b : Nat} (ha : a < 256) : an a b < 256 := Nat.lt_of_le_of_lt Nat.and_le_left ha
theorem or_lt {a b : Nat} (ha : a < 256) (hb : b < 256) : a ||| b < 256 := Nat.or_lt_two_pow (n := 8) ha hb
theorem pow_lt {k : Nat} (hk : k < 8) : 2 ^ k < 256 := by have := Nat.pow_lt_pow_right (a := 2) (by omega) hk; omega
theorem ext8 {a b : Nat} (ha : a < 256) (hb : b < 256) (h : ∀ i, i < 8 → a.testBit i = b.testBit i) : a = b := by
  apply Nat.eq_of_testBit_eq
  intro i
  by_cases hi : i < 8
  · exact h i hi
  · rw [hi_bit ha (by omega), hi_bit hb (by omega)]
theorem shr_bit {x i : Nat} (hx : x < 256) (hi : i < 8) : bits .and .i64 (shrI .i64 (x : Int) (i : Int)) 1 = if x.testBit i then 1 else 0 := by
  rw [shr_i64 i (by omega)]
  have e : (x : Int) / 2 ^ i = ((x / 2 ^ i : Nat) : Int) := by simp
  have h1 : x / 2 ^ i ≤ x := Nat.div_le_self _ _
  rw [e, show (1 : Int) = ((1 : Nat) : Int) from rfl, i64_and_nat _ _ (by omega) (by omega), Nat.and_one_is_mod, Nat.testBit_eq_decide_div_mod_eq]
  have := Nat.mod_two_eq_zero_or_one (x / 2 ^ i)
  rcases this with h | h <;> simp [h]
theorem shl_one {k : Nat} (hk : k < 8) : shlI .i64 1 (k : Int) = ((2 ^ k : Nat) : Int) := by
  have : ∀ k, k < 8 → shlI .i64 1 ((k : Nat) : Int) = ((2 ^ k : Nat) : Int) := by decide +kernel
  exact this k hk
def L (E U M P : Nat) : S_irq_Lines := S_irq_Lines.mk E U M P
def zz : S_irq_Lines := S_irq_Lines.mk 0 0 0 0
def badb (y : Int) : Bool := decide (y < 0) || decide (y > 255)
theorem not_bad {y : Int} (h : badb y = false) : ∃ Y : Nat, y = (Y : Int) ∧ Y < 256 := by
  simp [badb] at h
  exact ⟨y.toNat, by omega, by omega⟩
theorem ite_bad (y : Int) {α : Type} (a b : α) : (if y < 0 then a else if y > 255 then a else b) = if badb y = true then a else b := by
  unfold badb
  by_cases h1 : y < 0
  · simp [h1]
  · by_cases h2 : y > 255 <;> simp [h1, h2]
theorem chk1step (n k : Nat) (e u m p y i : Int) (hi : i < 4) (hg : getI [e, u, m, p] i = some y) : G_irq_Check_L1 n (S_irq_Lines.mk e u m p) (k + 1) i = if badb y = true then some (.x0 1) else G_irq_Check_L1 n (S_irq_Lines.mk e u m p) k (wi .i64 (i + 1)) := by
  rw [G_irq_Check_L1, if_pos (by simpa using hi), hg, Option.bind_some, ite_bad]
theorem chk1end (n k : Nat) (e u m p : Int) : G_irq_Check_L1 n (S_irq_Lines.mk e u m p) (k + 1) 4 = some .x1 := by rw [G_irq_Check_L1, if_neg (by simp)]
theorem chk1 (n k : Nat) (e u m p : Int) : G_irq_Check_L1 n (S_irq_Lines.mk e u m p) (k + 5) 0 = if (badb e || badb u || badb m || badb p) = true then some (.x0 1) else some .x1 := by
  have w1 : wi .i64 ((0 : Int) + 1) = 1 := rfl
  have w2 : wi .i64 ((1 : Int) + 1) = 2 := rfl
  have w3 : wi .i64 ((2 : Int) + 1) = 3 := rfl
  have w4 : wi .i64 ((3 : Int) + 1) = 4 := rfl
  have g0 : getI [e, u, m, p] 0 = some e := rfl
  have g1 : getI [e, u, m, p] 1 = some u := rfl
  have g2 : getI [e, u, m, p] 2 = some m := rfl
  have g3 : getI [e, u, m, p] 3 = some p := rfl
  rw [chk1step n _ e u m p e 0 (by omega) g0, w1, chk1step n _ e u m p u 1 (by omega) g1, w2, chk1step n _ e u m p m 2 (by omega) g2, w3, chk1step n _ e u m p p 3 (by omega) g3, w4, chk1end]
  cases badb e <;> cases badb u <;> cases badb m <;> cases badb p <;> rfl
theorem lin1step (n k : Nat) (e u m p y i : Int) (hi : i < 4) (hg : getI [e, u, m, p] i = some y) : G_ringref5_LinesErr_L1 n e p u m (k + 1) i = if badb y = true then some (.x0 1) else G_ringref5_LinesErr_L1 n e p u m k (wi .i64 (i + 1)) := by
  rw [G_ringref5_LinesErr_L1, if_pos (by simpa using hi), hg, Option.bind_some, ite_bad]
theorem lin1end (n k : Nat) (e u m p : Int) : G_ringref5_LinesErr_L1 n e p u m (k + 1) 4 = some .x1 := by rw [G_ringref5_LinesErr_L1, if_neg (by simp)]
theorem lin1 (n k : Nat) (e u m p : Int) : G_ringref5_LinesErr_L1 n e p u m (k + 5) 0 = if (badb e || badb u || badb m || badb p) = true then some (.x0 1) else some .x1 := by
  have w1 : wi .i64 ((0 : Int) + 1) = 1 := rfl
  have w2 : wi .i64 ((1 : Int) + 1) = 2 := rfl
  have w3 : wi .i64 ((2 : Int) + 1) = 3 := rfl
  have w4 : wi .i64 ((3 : Int) + 1) = 4 := rfl
  have g0 : getI [e, u, m, p] 0 = some e := rfl
  have g1 : getI [e, u, m, p] 1 = some u := rfl
  have g2 : getI [e, u, m, p] 2 = some m := rfl
  have g3 : getI [e, u, m, p] 3 = some p := rfl
  rw [lin1step n _ e u m p e 0 (by omega) g0, w1, lin1step n _ e u m p u 1 (by omega) g1, w2, lin1step n _ e u m p m 2 (by omega) g2, w3, lin1step n _ e u m p p 3 (by omega) g3, w4, lin1end]
  cases badb e <;> cases badb u <;> cases badb m <;> cases badb p <;> rfl
/-- every pending line is one of edges -/
def okp (E P : Nat) : Bool := (List.range 8).all fun i => !P.testBit i || E.testBit i
theorem lin2 (n : Nat) (E P : Nat) (hE : E < 256) (hP : P < 256) : ∀ (f i r : Nat), i + f = 8 → G_ringref5_LinesErr_L2 n (E : Int) (P : Int) (f + 1 + r) (i : Int) = if ((List.range' i f).all fun i => !P.testBit i || E.testBit i) = true then some .x1 else some (.x0 3)
  | 0, i, r, h => by
    rw [show 0 + 1 + r = r + 1 by omega, G_ringref5_LinesErr_L2, if_neg (by omega)]
    rfl
  | f + 1, i, r, h => by
    rw [show f + 1 + 1 + r = (f + 1 + r) + 1 by omega, G_ringref5_LinesErr_L2, if_pos (by omega), if_pos (by omega), if_pos (by omega), shr_bit hP (by omega), shr_bit hE (by omega), wi_succ (by omega), lin2 n E P hE hP f (i + 1) r (by omega)]
    rw [List.range'_succ, List.all_cons]
    cases P.testBit i <;> cases E.testBit i <;> first | rfl | simp
theorem okp_an {E P : Nat} (hE : E < 256) (hP : P < 256) : (an P E == 0) = okp E P := by
  have := andNot0 P E hP hE
  unfold an okp
  rw [this]
  rw [Bool.eq_iff_iff]
  simp only [Bool.not_eq_true', List.any_eq_false, List.all_eq_true, List.mem_range]
  constructor
  · intro h i hi; have := h i hi; revert this; cases P.testBit i <;> cases E.testBit i <;> simp
  · intro h i hi; have := h i hi; revert this; cases P.testBit i <;> cases E.testBit i <;> simp
theorem okp_bit {E P : Nat} (h : okp E P = true) {i : Nat} (hi : i < 8) (hp : P.testBit i = true) : E.testBit i = true := by
  have := List.all_eq_true.1 h i (List.mem_range.2 hi)
  simpa [hp] using this
theorem okp_of {E P : Nat} (h : ∀ i, i < 8 → P.testBit i = true → E.testBit i = true) : okp E P = true := by
  unfold okp
  rw [List.all_eq_true]
  intro i hi
  have := h i (List.mem_range.1 hi)
  cases hp : P.testBit i with
  | true => simp [this hp]
  | false => rfl
theorem check_ok {E U M P : Nat} (hE : E < 256) (hU : U < 256) (hM : M < 256) (hP : P < 256) : G_irq_Check 50 (L E U M P) = if okp E P = true then some 0 else some 3 := by
  unfold G_irq_Check L
  have hb : ∀ X : Nat, X < 256 → badb (X : Int) = false := by intro X hX; simp [badb]; omega
  have h := chk1 50 45 (E : Int) U M P
  rw [hb E hE, hb U hU, hb M hM, hb P hP] at h
  have h : G_irq_Check_L1 50 (S_irq_Lines.mk E U M P) 50 0 = some .x1 := h
  rw [h]
  simp only [Option.bind_some]
  rw [i64_andNot_nat P E (by omega) (by omega), ← okp_an hE hP]
  show (if ((an P E : Nat) : Int) = 0 then _ else _) = _
  by_cases hz : an P E = 0
  · simp [hz]
  · simp [hz]
theorem lines_ok {E U M P : Nat} (hE : E < 256) (hU : U < 256) (hM : M < 256) (hP : P < 256) : G_ringref5_LinesErr 50 E U M P = if okp E P = true then some 0 else some 3 := by
  unfold G_ringref5_LinesErr
  have hb : ∀ X : Nat, X < 256 → badb (X : Int) = false := by intro X hX; simp [badb]; omega
  have h := lin1 50 45 (E : Int) U M P
  rw [hb E hE, hb U hU, hb M hM, hb P hP] at h
  have h : G_ringref5_LinesErr_L1 50 (E : Int) P U M 50 0 = some .x1 := h
  rw [h]
  simp only [Option.bind_some]
  have h2 := lin2 50 E P hE hP 8 0 41 rfl
  have h2 : G_ringref5_LinesErr_L2 50 (E : Int) P 50 0 = _ := h2
  rw [h2]
  have e : List.range' 0 8 = List.range 8 := rfl
  rw [e]
  show (if okp E P = true then _ else _ : Option _).bind _ = _
  cases okp E P <;> rfl

/-- what fails, fails alike -/
theorem errs (l : S_irq_Lines) (k r : Int) (on : Bool) (h : G_irq_Check 50 l = some r) (hr : r ≠ 0) : G_irq_Set 50 l k on = some (zz, r) ∧ G_irq_Mask 50 l k on = some (zz, r) ∧ G_irq_Next 50 l = some (0, r) ∧ G_irq_Take 50 l = some (zz, 0, r) := by
  have hl : G_irq_line 50 l k = some (0, r) := by unfold G_irq_line; rw [h, Option.bind_some, if_neg hr]
  have hn : G_irq_Next 50 l = some (0, r) := by unfold G_irq_Next; rw [h, Option.bind_some, if_neg hr]
  refine ⟨?_, ?_, hn, ?_⟩
  · unfold G_irq_Set; rw [hl, Option.bind_some, if_neg hr]; rfl
  · unfold G_irq_Mask; rw [hl, Option.bind_some, if_neg hr]; rfl
  · unfold G_irq_Take; rw [hn, Option.bind_some, if_neg hr]; rfl
def fd (c : Nat → Bool) : Nat → Nat → Option Nat
  | 0, _ => none
  | f + 1, i => if c i = true then some i else fd c f (i + 1)
theorem fd_lt {c : Nat → Bool} : ∀ {f i j : Nat}, fd c f i = some j → j < i + f
  | 0, i, j, h => by simp [fd] at h
  | f + 1, i, j, h => by
    simp only [fd] at h
    split at h
    · simp at h; omega
    · have := fd_lt h; omega
section
variable {E U M P : Nat} (hE : E < 256) (hU : U < 256) (hM : M < 256) (hP : P < 256) (hok : okp E P = true)
/-- line i calls -/
def cb (E U M P i : Nat) : Bool := !M.testBit i && (if E.testBit i = true then P.testBit i else U.testBit i)
include hE hU hM hP hok
theorem nextl : ∀ (f i r : Nat), i + f = 8 → G_irq_Next_L1 50 (L E U M P) (f + 1 + r) (i : Int) = match fd (cb E U M P) f i with | some j => some (.x0 (j : Int) 0) | none => some .x1
  | 0, i, r, h => by
    rw [show 0 + 1 + r = r + 1 by omega, G_irq_Next_L1, if_neg (by omega)]
    rfl
  | f + 1, i, r, h => by
    have hb : (an (P ||| an U E) M).testBit i = cb E U M P i := by
      rw [an_bit hM (by omega), Nat.testBit_or, an_bit hE (by omega)]
      unfold cb
      have := okp_bit hok (i := i) (by omega)
      revert this
      cases P.testBit i <;> cases E.testBit i <;> cases U.testBit i <;> cases M.testBit i <;> simp
    have hx : bits .andNot .i64 (bits .or .i64 (L E U M P).fPending (bits .andNot .i64 (L E U M P).fUp (L E U M P).fEdge)) (L E U M P).fMasked = ((an (P ||| an U E) M : Nat) : Int) := by
      have l1 := an_lt (b := E) hU
      have l2 := or_lt hP l1
      show bits .andNot .i64 (bits .or .i64 (P : Int) (bits .andNot .i64 (U : Int) (E : Int))) (M : Int) = _
      rw [i64_andNot_nat U E (by omega) (by omega)]
      show bits .andNot .i64 (bits .or .i64 (P : Int) ((an U E : Nat) : Int)) (M : Int) = _
      rw [i64_or_nat P (an U E) (by omega) (by omega), i64_andNot_nat _ M (by omega) (by omega)]
      rfl
    rw [show f + 1 + 1 + r = (f + 1 + r) + 1 by omega, G_irq_Next_L1, if_pos (by omega), if_pos (by omega), hx, shr_bit (an_lt (or_lt hP (an_lt hU))) (by omega), hb, wi_succ (by omega), nextl f (i + 1) r (by omega)]
    simp only [fd]
    cases cb E U M P i <;> simp
theorem next_ok : G_irq_Next 50 (L E U M P) = match fd (cb E U M P) 8 0 with | some j => some ((j : Int), 0) | none => some (0, 4) := by
  unfold G_irq_Next
  rw [check_ok hE hU hM hP, if_pos hok, Option.bind_some, if_pos rfl]
  have h := nextl hE hU hM hP hok 8 0 41 rfl
  have h : G_irq_Next_L1 50 (L E U M P) 50 0 = _ := h
  rw [h]
  cases fd (cb E U M P) 8 0 <;> rfl
theorem take_ok : G_irq_Take 50 (L E U M P) = match fd (cb E U M P) 8 0 with | some j => some (L E U M (an P (2 ^ j)), (j : Int), 0) | none => some (zz, 0, 4) := by
  unfold G_irq_Take
  rw [next_ok hE hU hM hP hok]
  cases hj : fd (cb E U M P) 8 0 with
  | none => rfl
  | some j =>
    have := fd_lt hj
    simp only [Option.bind_some, if_true]
    rw [if_pos (by omega), shl_one (by omega)]
    have hp := pow_lt (k := j) (by omega)
    show some (S_irq_Lines.mk (E : Int) (U : Int) (M : Int) (bits .andNot .i64 (P : Int) ((2 ^ j : Nat) : Int)), (j : Int), (0 : Int)) = _
    rw [i64_andNot_nat P (2 ^ j) (by omega) (by omega)]
    rfl
theorem line_ok (k : Int) : G_irq_line 50 (L E U M P) k = if k < 0 then some (0, 1) else if k ≥ 8 then some (0, 1) else some (((2 ^ k.toNat : Nat) : Int), 0) := by
  unfold G_irq_line
  rw [check_ok hE hU hM hP, if_pos hok, Option.bind_some, if_pos rfl]
  by_cases h1 : k < 0
  · simp [h1]
  · by_cases h2 : k ≥ 8
    · simp [h1, h2]
    · rw [if_neg h1, if_neg h2, if_neg h1, if_neg h2, if_pos (by omega)]
      obtain ⟨K, rfl⟩ := Int.eq_ofNat_of_zero_le (show 0 ≤ k by omega)
      rw [shl_one (by omega)]
      simp
theorem set_ok (k : Nat) (hk : k < 8) (on : Bool) : G_irq_Set 50 (L E U M P) (k : Int) on = some (if on = true then L E (U ||| 2 ^ k) M (P ||| an (2 ^ k &&& E) U) else L E (an U (2 ^ k)) M P, 0) := by
  unfold G_irq_Set
  rw [line_ok hE hU hM hP hok, if_neg (by omega), if_neg (by omega), Option.bind_some, if_pos rfl, Int.toNat_natCast]
  have hp := pow_lt hk
  have h1 : 2 ^ k &&& E < 256 := Nat.lt_of_le_of_lt Nat.and_le_left hp
  have h2 := an_lt (b := U) h1
  cases on with
  | true =>
    simp only [if_true]
    show some (S_irq_Lines.mk (E : Int) (bits .or .i64 (U : Int) ((2 ^ k : Nat) : Int)) (M : Int) (bits .or .i64 (P : Int) (bits .andNot .i64 (bits .and .i64 ((2 ^ k : Nat) : Int) (E : Int)) (U : Int))), (0 : Int)) = _
    rw [i64_or_nat U (2 ^ k) (by omega) (by omega), i64_and_nat (2 ^ k) E (by omega) (by omega), i64_andNot_nat _ U (by omega) (by omega)]
    show some (S_irq_Lines.mk (E : Int) _ (M : Int) (bits .or .i64 (P : Int) ((an (2 ^ k &&& E) U : Nat) : Int)), (0 : Int)) = _
    rw [i64_or_nat P _ (by omega) (by omega)]
    rfl
  | false =>
    show some (S_irq_Lines.mk (E : Int) (bits .andNot .i64 (U : Int) ((2 ^ k : Nat) : Int)) (M : Int) (P : Int), (0 : Int)) = _
    rw [i64_andNot_nat U (2 ^ k) (by omega) (by omega)]
    rfl
theorem mask_ok (k : Nat) (hk : k < 8) (on : Bool) : G_irq_Mask 50 (L E U M P) (k : Int) on = some (if on = true then L E U (M ||| 2 ^ k) P else L E U (an M (2 ^ k)) P, 0) := by
  unfold G_irq_Mask
  rw [line_ok hE hU hM hP hok, if_neg (by omega), if_neg (by omega), Option.bind_some, if_pos rfl, Int.toNat_natCast]
  have hp := pow_lt hk
  cases on with
  | true =>
    show some (S_irq_Lines.mk (E : Int) (U : Int) (bits .or .i64 (M : Int) ((2 ^ k : Nat) : Int)) (P : Int), (0 : Int)) = _
    rw [i64_or_nat M (2 ^ k) (by omega) (by omega)]
    rfl
  | false =>
    show some (S_irq_Lines.mk (E : Int) (U : Int) (bits .andNot .i64 (M : Int) ((2 ^ k : Nat) : Int)) (P : Int), (0 : Int)) = _
    rw [i64_andNot_nat M (2 ^ k) (by omega) (by omega)]
    rfl
theorem bad_ok (k : Int) (hk : k < 0 ∨ k > 7) (on : Bool) : G_irq_Set 50 (L E U M P) k on = some (zz, 1) ∧ G_irq_Mask 50 (L E U M P) k on = some (zz, 1) := by
  have hl : G_irq_line 50 (L E U M P) k = some (0, 1) := by
    rw [line_ok hE hU hM hP hok]
    by_cases h : k < 0
    · rw [if_pos h]
    · rw [if_neg h, if_pos (by omega)]
  constructor
  · unfold G_irq_Set; rw [hl, Option.bind_some, if_neg (by decide)]; rfl
  · unfold G_irq_Mask; rw [hl, Option.bind_some, if_neg (by decide)]; rfl
end
def lo (E U M P i : Nat) : S_ringref5_Line := ⟨E.testBit i, U.testBit i, M.testBit i, P.testBit i⟩
theorem splitl {E U M P : Nat} (hE : E < 256) (hU : U < 256) (hM : M < 256) (hP : P < 256) : ∀ (f i r : Nat) (A : Fin 8 → S_ringref5_Line), i + f = 8 → G_ringref5_Split_L1 50 E U M P (f + 1 + r) (i : Int) A = some (.x0 (fun j => if j.val < i then A j else lo E U M P j.val))
  | 0, i, r, A, h => by
    rw [show 0 + 1 + r = r + 1 by omega, G_ringref5_Split_L1, if_neg (by omega)]
    congr 2
    funext j
    rw [if_pos (by omega)]
  | f + 1, i, r, A, h => by
    have hg : getA A (i : Int) = some (A ⟨i, by omega⟩) := by unfold getA; rw [dif_pos (by omega)]; rfl
    rw [show f + 1 + 1 + r = (f + 1 + r) + 1 by omega, G_ringref5_Split_L1, if_pos (by omega), if_pos (by omega), if_pos (by omega), if_pos (by omega), if_pos (by omega), if_pos (by omega), hg, Option.bind_some, wi_succ (by omega), shr_bit hE (by omega), shr_bit hU (by omega), shr_bit hM (by omega), shr_bit hP (by omega), splitl hE hU hM hP f (i + 1) r _ (by omega)]
    congr 2
    funext j
    unfold setA lo
    rw [Int.toNat_natCast]
    by_cases h1 : j.val < i
    · rw [if_pos (by omega), if_neg (by omega), if_pos h1]
    · rw [if_neg h1]
      by_cases h2 : j.val = i
      · rw [if_pos (by omega), if_pos h2, h2]
        cases E.testBit i <;> cases U.testBit i <;> cases M.testBit i <;> cases P.testBit i <;> rfl
      · rw [if_neg (by omega)]
theorem split_ok {E U M P : Nat} (hE : E < 256) (hU : U < 256) (hM : M < 256) (hP : P < 256) : G_ringref5_Split 50 E U M P = some (fun j => lo E U M P j.val) := by
  unfold G_ringref5_Split
  have h := fun A => splitl hE hU hM hP 8 0 41 A rfl
  have h : ∀ A, G_ringref5_Split_L1 50 E U M P 50 0 A = some (.x0 (fun j => if j.val < 0 then A j else lo E U M P j.val)) := h
  rw [h]
  simp
theorem calls_ok (E U M P i : Nat) : G_ringref5_Line_Calls 50 (lo E U M P i) = some (cb E U M P i) := by
  unfold G_ringref5_Line_Calls G_ringref5_Line_Calls_C1 lo cb
  cases E.testBit i <;> cases U.testBit i <;> cases M.testBit i <;> cases P.testBit i <;> rfl
theorem idxl (E U M P : Nat) (s : List S_ringref5_Line) (hs : s.length = 8) (hg : ∀ i, i < 8 → s[i]? = some (lo E U M P i)) : ∀ (f i r : Nat), i + f = 8 → G_slices_IndexFunc_ringref5_Line_ringref5_Line_L1 50 s (fun y0 => G_ringref5_Line_Calls 50 y0) (f + 1 + r) (i : Int) = match fd (cb E U M P) f i with | some j => some (.x0 (j : Int)) | none => some .x1
  | 0, i, r, h => by
    rw [show 0 + 1 + r = r + 1 by omega, G_slices_IndexFunc_ringref5_Line_ringref5_Line_L1, if_neg (by omega)]
    rfl
  | f + 1, i, r, h => by
    rw [show f + 1 + 1 + r = (f + 1 + r) + 1 by omega, G_slices_IndexFunc_ringref5_Line_ringref5_Line_L1, if_pos (by omega), getI_nat, hg i (by omega), Option.bind_some, calls_ok, Option.bind_some, wi_succ (by omega), idxl E U M P s hs hg f (i + 1) r (by omega)]
    simp only [fd]
    cases cb E U M P i <;> simp
theorem idx_ok (E U M P : Nat) (A : Fin 8 → S_ringref5_Line) (hA : A = fun j => lo E U M P j.val) : G_slices_IndexFunc_ringref5_Line_ringref5_Line 50 [A 0, A 1, A 2, A 3, A 4, A 5, A 6, A 7] (fun y0 => G_ringref5_Line_Calls 50 y0) = match fd (cb E U M P) 8 0 with | some j => some (j : Int) | none => some (-1) := by
  subst hA
  unfold G_slices_IndexFunc_ringref5_Line_ringref5_Line
  have h := idxl E U M P [lo E U M P 0, lo E U M P 1, lo E U M P 2, lo E U M P 3, lo E U M P 4, lo E U M P 5, lo E U M P 6, lo E U M P 7] rfl (fun i hi => by
    match i, hi with
    | 0, _ => rfl
    | 1, _ => rfl
    | 2, _ => rfl
    | 3, _ => rfl
    | 4, _ => rfl
    | 5, _ => rfl
    | 6, _ => rfl
    | 7, _ => rfl) 8 0 41 rfl
  have h : G_slices_IndexFunc_ringref5_Line_ringref5_Line_L1 50 [lo E U M P 0, lo E U M P 1, lo E U M P 2, lo E U M P 3, lo E U M P 4, lo E U M P 5, lo E U M P 6, lo E U M P 7] (fun y0 => G_ringref5_Line_Calls 50 y0) 50 0 = _ := h
  show (G_slices_IndexFunc_ringref5_Line_ringref5_Line_L1 50 [lo E U M P 0, lo E U M P 1, lo E U M P 2, lo E U M P 3, lo E U M P 4, lo E U M P 5, lo E U M P 6, lo E U M P 7] (fun y0 => G_ringref5_Line_Calls 50 y0) 50 0).bind _ = _
  rw [h]
  cases fd (cb E U M P) 8 0 <;> rfl
theorem eqA_refl (x : Fin 8 → S_ringref5_Line) : eqA_8_ringref5_Line x x = true := by
  unfold eqA_8_ringref5_Line
  simp
theorem eqS_refl (x : S_irq_Lines) : eqS_irq_Lines x x = true := by
  unfold eqS_irq_Lines
  simp
theorem less_bit : ∀ P, P < 256 → ∀ j, j < 8 → an P (2 ^ j) + (if P.testBit j = true then 2 ^ j else 0) = P := by decide +kernel
end Go.Proofs.YtccmjndnjpjohaaR.irqSays
