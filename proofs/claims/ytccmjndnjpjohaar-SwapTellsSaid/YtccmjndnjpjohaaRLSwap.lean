/- SwapTells returns true for every list of slots, every two lengths of data, and every four numbers, and leaves its arguments alone. No condition. -/
import Derived.Test.YtccmjndnjpjohaaRGuSwapTells
import Derived.Test.YtccmjndnjpjohaaRMath
import Derived.ChangeOld
namespace Go.Proofs.YtccmjndnjpjohaaR.swapTells
open Go.ChangeShapes Go.WideShapes Go.ChangeAt Go.RowKit help rep pv
set_option linter.all false

theorem app_bytes {α : Type} {xs ys : List α} (h : (xs.length + ys.length) * 24 ≤ 140737488351232) : app 24 xs ys = some (xs ++ ys) := by
  unfold app
  rw [if_pos ⟨by unfold maxLen; omega, by omega⟩]
def z16 : Fin 16 → Int := fun _ => 0
theorem lit16 : (fun i : Fin 16 => [0, 0, 0, 0, 0, 0, 0, 0, 0, 0, 0, 0, 0, 0, 0, 0].get i) = z16 := by
  funext i
  revert i
  decide +kernel
def at_ (A : Fin 16 → Int) (j : Nat) : Int := if h : j < 16 then A ⟨j, h⟩ else 0
theorem getA_at {A : Fin 16 → Int} {j : Nat} (h : j < 16) : getA A (j : Int) = some (at_ A j) := by
  unfold getA at_
  rw [dif_pos (by omega), dif_pos h]; rfl
def zer (d : Fin 16 → Int) : Bool := eqA_16_uint8 d z16
theorem zer_all (d : Fin 16 → Int) : zer d = (List.range' 0 16).all (fun j => at_ d j == 0) := by kernel_rfl
theorem eqA_refl (d : Fin 16 → Int) : eqA_16_uint8 d d = true := by
  unfold eqA_16_uint8
  simp
theorem eqS_refl (x : S_swap_Slot) : eqS_swap_Slot x x = true := by
  unfold eqS_swap_Slot
  simp
theorem eqS_zero (y : S_swap_Slot) : eqS_swap_Slot y (S_swap_Slot.mk 0 z16) = ((y.fMany == 0) && (zer y.fData && true)) := rfl
theorem sl1 (n : Nat) (l : List S_swap_Slot) (x : Int) (y : S_swap_Slot) : ∀ (f i r : Nat), i + f = 16 → G_ringref2_Slots_L1 n l x y (f + 1 + r) (i : Int) = if y.fMany = 0 ∧ (List.range' i f).all (fun j => at_ y.fData j == 0) = false then some (.x0 3) else some .x1
  | 0, i, r, h => by
    rw [show 0 + 1 + r = r + 1 by omega, G_ringref2_Slots_L1, if_neg (by omega)]
    simp
  | f + 1, i, r, h => by
    rw [show f + 1 + 1 + r = (f + 1 + r) + 1 by omega, G_ringref2_Slots_L1, if_pos (by omega), getA_at (by omega), Option.bind_some, wi_succ (by omega), sl1 n l x y f (i + 1) r (by omega), List.range'_succ, List.all_cons]
    by_cases h1 : y.fMany = 0
    · by_cases h2 : at_ y.fData i = 0
      · have e : (at_ y.fData i == 0) = true := by simpa using h2
        rw [if_pos h1, if_pos h2, e, Bool.true_and]
      · have e : (at_ y.fData i == 0) = false := by simpa using h2
        rw [if_pos h1, if_neg h2, e, Bool.false_and, if_pos ⟨h1, rfl⟩]
    · rw [if_neg h1, if_neg (fun h => h1 h.1), if_neg (fun h => h1 h.1)]
def sbad (y : S_swap_Slot) : Int := if y.fMany < 0 ∨ 1024 < y.fMany then 1 else if y.fMany = 0 ∧ zer y.fData = false then 3 else 0
theorem in_any (n : Nat) (a b c : Int) : G_ringref2_In n a b c = some (decide (b ≤ a) && decide (a ≤ c)) := by
  unfold G_ringref2_In
  by_cases h : a ≥ b
  · rw [if_pos h]; simp [h]
  · rw [if_neg h]
    have : ¬ b ≤ a := h
    simp [this]
structure Good (l : List S_swap_Slot) : Prop where
  len : l.length ≤ 64
  box : ∀ y ∈ l, 0 ≤ y.fMany ∧ y.fMany ≤ 1024
theorem l12 (n : Nat) (l : List S_swap_Slot) (hl : l.length ≤ 64) (hn : 50 ≤ n) : ∀ (k i : Nat), l.length - i < k → i ≤ l.length →
    (∃ e : Int, e ≠ 0 ∧ G_swap_Check_L1 n l k (i : Int) = some (.x0 e) ∧ G_ringref2_Slots_L2 n l k (i : Int) = some (.x0 e)) ∨
    (G_swap_Check_L1 n l k (i : Int) = some .x1 ∧ G_ringref2_Slots_L2 n l k (i : Int) = some .x1 ∧ ∀ y ∈ l.drop i, 0 ≤ y.fMany ∧ y.fMany ≤ 1024)
  | 0, i, h, _ => by omega
  | k + 1, i, h, hi => by
    rw [G_swap_Check_L1, G_ringref2_Slots_L2]
    by_cases hlt : (i : Int) < (l.length : Int)
    · obtain ⟨y, hy⟩ := get_lt hlt
      have hs := sl1 n l (i : Int) y 16 0 (n - 17) rfl
      rw [show 16 + 1 + (n - 17) = n by omega, ← zer_all] at hs
      have hs : G_ringref2_Slots_L1 n l (i : Int) y n 0 = _ := hs
      rw [if_pos hlt, if_pos hlt, getI_nat, hy, Option.bind_some, Option.bind_some, in_any, Option.bind_some, hs, wi_succ (by omega), lit16, eqS_zero]
      by_cases h1 : y.fMany < 0
      · left; exact ⟨1, by decide, by rw [if_pos h1], by rw [if_neg]; simp; omega⟩
      by_cases h2 : y.fMany > 1024
      · left; exact ⟨1, by decide, by rw [if_neg h1, if_pos h2], by rw [if_neg]; simp; omega⟩
      have h3 : (decide (0 ≤ y.fMany) && decide (y.fMany ≤ 1024)) = true := by simp; omega
      rw [if_neg h1, if_neg h2, if_pos h3]
      have step := l12 n l hl hn k (i + 1) (by omega) (by omega)
      have fin : (∃ e : Int, e ≠ 0 ∧ G_swap_Check_L1 n l k ((i + 1 : Nat) : Int) = some (.x0 e) ∧ G_ringref2_Slots_L2 n l k ((i + 1 : Nat) : Int) = some (.x0 e)) ∨
          (G_swap_Check_L1 n l k ((i + 1 : Nat) : Int) = some .x1 ∧ G_ringref2_Slots_L2 n l k ((i + 1 : Nat) : Int) = some .x1 ∧ ∀ y ∈ l.drop i, 0 ≤ y.fMany ∧ y.fMany ≤ 1024) := by
        rcases step with h | ⟨a, b, c⟩
        · exact .inl h
        · refine .inr ⟨a, b, fun z hz => ?_⟩
          rw [drop_cons hy] at hz
          rcases List.mem_cons.1 hz with rfl | hz
          · omega
          · exact c z hz
      by_cases h4 : y.fMany = 0
      · rw [if_pos h4]
        cases hz : zer y.fData with
        | true =>
          simp only [h4, eqRes]
          simpa using fin
        | false =>
          left
          exact ⟨3, by decide, by simp [h4, eqRes], by simp [h4]⟩
      · rw [if_neg h4, if_neg (fun h => h4 h.1)]
        exact fin
    · right
      rw [if_neg hlt, if_neg hlt, drop_end hlt]
      exact ⟨rfl, rfl, by simp⟩
theorem checks (n : Nat) (l : List S_swap_Slot) (hn : 100 ≤ n) : ∃ r : Int, G_swap_Check n l = some r ∧ G_ringref2_Slots n l = some r ∧ (r = 0 → Good l) := by
  unfold G_swap_Check G_ringref2_Slots
  by_cases h : (l.length : Int) > 64
  · rw [if_pos h, if_pos h]
    exact ⟨2, rfl, rfl, fun h => absurd h (by decide : ¬ (2 : Int) = 0)⟩
  · rw [if_neg h, if_neg h]
    rcases l12 n l (by omega) (by omega) n 0 (by omega) (by omega) with ⟨e, he, h1, h2⟩ | ⟨h1, h2, h3⟩
    · have h1 : G_swap_Check_L1 n l n 0 = some (.x0 e) := h1
      have h2 : G_ringref2_Slots_L2 n l n 0 = some (.x0 e) := h2
      rw [h1, h2]
      exact ⟨e, rfl, rfl, fun h => absurd h he⟩
    · have h1 : G_swap_Check_L1 n l n 0 = some .x1 := h1
      have h2 : G_ringref2_Slots_L2 n l n 0 = some .x1 := h2
      rw [h1, h2]
      exact ⟨0, rfl, rfl, fun _ => ⟨by omega, h3⟩⟩
theorem same_loop (n : Nat) (l : List S_swap_Slot) (hl : l.length < 1000000) : ∀ (k i : Nat), l.length - i < k → i ≤ l.length → G_ringref2_SlotSame_L1 n l l k (i : Int) = some .x1
  | 0, i, h, _ => by omega
  | k + 1, i, h, hi => by
    rw [G_ringref2_SlotSame_L1]
    by_cases hlt : (i : Int) < (l.length : Int)
    · obtain ⟨x, hx⟩ := get_lt hlt
      rw [if_pos hlt, getI_nat, hx, Option.bind_some, Option.bind_some, eqS_refl, if_neg (by decide), wi_succ (by omega)]
      exact same_loop n l hl k (i + 1) (by omega) (by omega)
    · rw [if_neg hlt]
theorem same_self (n : Nat) (l : List S_swap_Slot) (hl : l.length < 1000000) (hn : l.length < n) : G_ringref2_SlotSame n l l = some true := by
  unfold G_ringref2_SlotSame
  have := same_loop n l hl n 0 (by omega) (by omega)
  have : G_ringref2_SlotSame_L1 n l l n 0 = some .x1 := this
  rw [if_pos rfl, this]; rfl
def fi : List S_swap_Slot → Nat → Option Nat
  | [], _ => none
  | y :: ys, i => if y.fMany = 0 then some i else fi ys (i + 1)
theorem fi_lt : ∀ {l : List S_swap_Slot} {i j : Nat}, fi l i = some j → j < i + l.length
  | [], i, j, h => by simp [fi] at h
  | y :: ys, i, j, h => by
    rw [fi] at h
    split at h
    · simp at h; simp; omega
    · have := fi_lt h; simp; omega
def fz (o : Option Nat) : Int := match o with | some j => (j : Int) | none => -1
def cnt : List S_swap_Slot → Nat
  | [] => 0
  | y :: ys => (if y.fMany > 0 then 1 else 0) + cnt ys
def sm : List S_swap_Slot → Int
  | [] => 0
  | y :: ys => y.fMany + sm ys
section
variable (n : Nat) (hn : 100 ≤ n) {l : List S_swap_Slot} (g : Good l)
include hn g
theorem idx_loop : ∀ (k i : Nat), l.length - i < k → i ≤ l.length → G_slices_IndexFunc_swap_Slot_swap_Slot_L1 n l (fun y0 => G_swap_Put_1 n y0) k (i : Int) = some (match fi (l.drop i) i with | some j => .x0 (j : Int) | none => .x1)
  | 0, i, h, _ => by omega
  | k + 1, i, h, hi => by
    have hgl := g.len
    rw [G_slices_IndexFunc_swap_Slot_swap_Slot_L1]
    by_cases hlt : (i : Int) < (l.length : Int)
    · obtain ⟨y, hy⟩ := get_lt hlt
      rw [if_pos hlt, getI_nat, hy, Option.bind_some, G_swap_Put_1, Option.bind_some, drop_cons hy, fi, wi_succ (by omega)]
      by_cases h0 : y.fMany = 0
      · simp [h0]
      · rw [if_neg (by simpa using h0), if_neg h0]
        exact idx_loop k (i + 1) (by omega) (by omega)
    · rw [if_neg hlt, drop_end hlt]; rfl
theorem idx_any : G_slices_IndexFunc_swap_Slot_swap_Slot n l (fun y0 => G_swap_Put_1 n y0) = some (fz (fi l 0)) := by
  have hgl := g.len
  unfold G_slices_IndexFunc_swap_Slot_swap_Slot
  have h := idx_loop n hn g n 0 (by omega) (by omega)
  have h : G_slices_IndexFunc_swap_Slot_swap_Slot_L1 n l (fun y0 => G_swap_Put_1 n y0) n 0 = some (match fi l 0 with | some j => .x0 (j : Int) | none => .x1) := h
  rw [h]
  cases fi l 0 <;> rfl
theorem many_loop : ∀ (k i : Nat) (c s : Int), l.length - i < k → i ≤ l.length → 0 ≤ c → c ≤ i → 0 ≤ s → s ≤ 1024 * i → G_swap_Many_L1 n l k c s (i : Int) = some (.x0 (c + cnt (l.drop i)) (s + sm (l.drop i)))
  | 0, i, c, s, h, _, _, _, _, _ => by omega
  | k + 1, i, c, s, h, hi, c0, c1, s0, s1 => by
    have hgl := g.len
    rw [G_swap_Many_L1]
    by_cases hlt : (i : Int) < (l.length : Int)
    · obtain ⟨y, hy⟩ := get_lt hlt
      have hb := g.box y (List.mem_of_getElem? hy)
      have w1 : wi .i64 (c + 1) = c + 1 := wi64 (by omega) (by omega)
      have w2 : wi .i64 (s + y.fMany) = s + y.fMany := wi64 (by omega) (by omega)
      rw [if_pos hlt, getI_nat, hy, Option.bind_some, drop_cons hy, cnt, sm, w1, w2, wi_succ (by omega)]
      by_cases h0 : y.fMany > 0
      · rw [if_pos h0, if_pos h0, many_loop k (i + 1) _ _ (by omega) (by omega) (by omega) (by omega) (by omega) (by omega)]
        congr 2 <;> omega
      · rw [if_neg h0, if_neg h0, many_loop k (i + 1) _ _ (by omega) (by omega) (by omega) (by omega) (by omega) (by omega)]
        congr 2 <;> omega
    · rw [if_neg hlt, drop_end hlt]; simp [cnt, sm]
variable (many k5 more : Int) (r44 : List S_swap_Slot × Int × Int) (r60 : (Fin 16 → Int) × Int) (r81 : List S_swap_Slot × Bool × Int) (r94 : Int × Int × Int) (data : Fin 16 → Int)
theorem free_loop : ∀ (k i : Nat) (f c s : Int), l.length - i < k → i ≤ l.length → 0 ≤ c → c ≤ i → 0 ≤ s → s ≤ 1024 * i → G_ringlaw2_SwapTells_L4 n l many k5 more r44 r60 r81 r94 data k f c s (i : Int) = some (.x0 (if f < 0 then (match fi (l.drop i) i with | some j => (j : Int) | none => f) else f) (c + cnt (l.drop i)) (s + sm (l.drop i)))
  | 0, i, f, c, s, h, _, _, _, _, _ => by omega
  | k + 1, i, f, c, s, h, hi, c0, c1, s0, s1 => by
    have hgl := g.len
    rw [G_ringlaw2_SwapTells_L4]
    by_cases hlt : (i : Int) < (l.length : Int)
    · obtain ⟨y, hy⟩ := get_lt hlt
      have hb := g.box y (List.mem_of_getElem? hy)
      have w1 : wi .i64 (c + 1) = c + 1 := wi64 (by omega) (by omega)
      have w2 : wi .i64 (s + y.fMany) = s + y.fMany := wi64 (by omega) (by omega)
      rw [if_pos hlt, getI_nat, hy, Option.bind_some, drop_cons hy, cnt, sm, fi]
      unfold G_ringlaw2_SwapTells_C3
      rw [w1, w2, wi_succ (by omega)]
      by_cases h0 : y.fMany > 0
      · rw [if_pos h0, if_pos h0, if_neg (show ¬ y.fMany = 0 by omega), Option.bind_some]
        simp only []
        rw [free_loop k (i + 1) f _ _ (by omega) (by omega) (by omega) (by omega) (by omega) (by omega)]
        congr 2 <;> omega
      · rw [if_neg h0, if_neg h0, if_pos (show y.fMany = 0 by omega)]
        by_cases hf : f < 0
        · rw [if_pos hf, if_pos hf, Option.bind_some]
          simp only []
          rw [free_loop k (i + 1) (i : Int) _ _ (by omega) (by omega) (by omega) (by omega) (by omega) (by omega), if_neg (by omega)]
          congr 2 <;> omega
        · rw [if_neg hf, if_neg hf, Option.bind_some]
          simp only []
          rw [free_loop k (i + 1) f _ _ (by omega) (by omega) (by omega) (by omega) (by omega) (by omega), if_neg hf]
          congr 2 <;> omega
    · rw [if_neg hlt, drop_end hlt]
      simp [cnt, sm, fi]
end
end Go.Proofs.YtccmjndnjpjohaaR.swapTells
