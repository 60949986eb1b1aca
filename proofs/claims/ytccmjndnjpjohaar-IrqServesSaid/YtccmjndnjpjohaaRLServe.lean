/- IrqServes returns true for every three lists, and leaves its arguments alone. No condition. -/
import Derived.Test.YtccmjndnjpjohaaRGuIrqServes
import Derived.Test.YtccmjndnjpjohaaRMath
import Derived.ChangeOld
namespace Go.Proofs.YtccmjndnjpjohaaR.irqServes
open Go.ChangeShapes Go.WideShapes Go.ChangeAt Go.RowKit help rep pv
set_option linter.all false

def bad1 (x : Int) : Bool := decide (x < 0) || decide (x > 100)
theorem bad_f (n : Nat) (x : Int) : G_ringlaw5_IrqServes_1 n x = some (bad1 x) := by
  unfold G_ringlaw5_IrqServes_1 bad1
  by_cases h : x < 0 <;> simp [h]
theorem idx_any (n m : Nat) (l : List Int) (hl : l.length < 1000000) : ∀ (k i : Nat), l.length - i < k → i ≤ l.length →
    (G_slices_IndexFunc_int_int_L1 n l (fun y0 => G_ringlaw5_IrqServes_1 m y0) k (i : Int) = some .x1 ∧ (l.drop i).any bad1 = false) ∨ (∃ z : Nat, G_slices_IndexFunc_int_int_L1 n l (fun y0 => G_ringlaw5_IrqServes_1 m y0) k (i : Int) = some (.x0 z) ∧ (l.drop i).any bad1 = true)
  | 0, i, h, _ => by omega
  | k + 1, i, h, hi => by
    rw [G_slices_IndexFunc_int_int_L1]
    by_cases hlt : (i : Int) < (l.length : Int)
    · obtain ⟨x, hx⟩ := get_lt hlt
      rw [if_pos hlt, getI_nat, hx, Option.bind_some, bad_f, Option.bind_some, drop_cons hx]
      cases hb : bad1 x with
      | true => right; exact ⟨i, by simp, by simp [hb]⟩
      | false =>
        rw [if_neg (by simp), wi_succ (by omega)]
        simpa [hb] using idx_any n m l hl k (i + 1) (by omega) (by omega)
    · left; rw [if_neg hlt, drop_end hlt]; exact ⟨rfl, rfl⟩
theorem contains_bad (n m : Nat) (l : List Int) (hn : l.length < n) (hl : l.length < 1000000) : G_slices_ContainsFunc_int_int n l (fun y0 => G_ringlaw5_IrqServes_1 m y0) = some (l.any bad1) := by
  unfold G_slices_ContainsFunc_int_int G_slices_IndexFunc_int_int
  rcases idx_any n m l hl n 0 (by omega) (by omega) with ⟨h1, h2⟩ | ⟨z, h1, h2⟩
  · have h1 : G_slices_IndexFunc_int_int_L1 n l (fun y0 => G_ringlaw5_IrqServes_1 m y0) n 0 = some .x1 := h1
    rw [h1]; simp at h2 ⊢; simpa using h2
  · have h1 : G_slices_IndexFunc_int_int_L1 n l (fun y0 => G_ringlaw5_IrqServes_1 m y0) n 0 = some (.x0 z) := h1
    rw [h1]; simp at h2 ⊢; simpa using h2
theorem concat_any (n : Nat) (a b : List Int) (ha : a.length ≤ 64) (hb : b.length ≤ 64) : G_slices_Concat_int_int_h (n + 3) [a, b] = some (a ++ b) := by
  unfold G_slices_Concat_int_int_h
  have w0 : wi .i64 ((0 : Int) + (a.length : Int)) = (a.length : Int) := by rw [wi64 (by omega) (by omega)]; omega
  have w1 : wi .i64 ((a.length : Int) + (b.length : Int)) = ((a.length + b.length : Nat) : Int) := by rw [wi64 (by omega) (by omega)]; simp
  have w2 : wi .i64 ((0 : Int) + 1) = 1 := rfl
  have w3 : wi .i64 ((1 : Int) + 1) = 2 := rfl
  have g0 : getI [a, b] 0 = some a := rfl
  have g1 : getI [a, b] 1 = some b := rfl
  have e1 : G_slices_Concat_int_int_h_L1 (n + 3) [a, b] (n + 3) 0 0 = some (.x0 ((a.length + b.length : Nat) : Int)) := by
    rw [G_slices_Concat_int_int_h_L1, if_pos (by simp), g0, Option.bind_some, w0, if_neg (by omega), w2, G_slices_Concat_int_int_h_L1, if_pos (by simp), g1, Option.bind_some, w1, if_neg (by omega), w3, G_slices_Concat_int_int_h_L1, if_neg (by simp)]
  rw [e1]
  simp only [Option.bind_some]
  have e2 : G_slices_Grow_int_int_h (n + 3) ((a.length + b.length : Nat) : Int) = some [] := by
    unfold G_slices_Grow_int_int_h
    have w4 : wi .i64 (((a.length + b.length : Nat) : Int) - wi .i64 (0 - 0)) = ((a.length + b.length : Nat) : Int) := by
      have : wi .i64 ((0 : Int) - 0) = 0 := rfl
      rw [this, wi64 (by omega) (by omega)]; omega
    rw [if_neg (by omega), w4]
    by_cases hp : ((a.length + b.length : Nat) : Int) > 0
    · rw [if_pos hp]
      have hz : appZ 8 (0 : Int) ((a.length + b.length : Nat) : Int) = some (List.replicate (a.length + b.length) 0) := by
        unfold appZ
        rw [if_pos ⟨by omega, by unfold maxLen; omega, by omega⟩, Int.toNat_natCast]
      rw [hz, Option.bind_some]
      have hs : sub (List.replicate (a.length + b.length) (0 : Int)) 0 0 = some [] := by
        unfold sub
        rw [if_pos (by simp; omega)]
        simp
      rw [hs, Option.bind_some]
    · rw [if_neg hp]
  rw [e2, Option.bind_some]
  have a1 : app 8 ([] : List Int) a = some a := by rw [app_some (by simp; omega) (by omega)]; simp
  have a2 : app 8 a b = some (a ++ b) := app_some (by omega) (by omega)
  rw [G_slices_Concat_int_int_h_L2, if_pos (by simp), g0, Option.bind_some, a1, Option.bind_some, w2, G_slices_Concat_int_int_h_L2, if_pos (by simp), g1, Option.bind_some, a2, Option.bind_some, w3, G_slices_Concat_int_int_h_L2, if_neg (by simp)]
  rfl
/-- the lines' state: has it gone up, is it pending -/
def ln (u p : Bool) : S_irq_Lines := S_irq_Lines.mk 1 (if u then 1 else 0) 0 (if p then 1 else 0)
theorem set_dn (u p : Bool) : G_irq_Set 200 (ln u p) 0 false = some (ln false p, 0) := by cases u <;> cases p <;> kernel_rfl
theorem set_up (p : Bool) : G_irq_Set 200 (ln false p) 0 true = some (ln true true, 0) := by cases p <;> kernel_rfl
theorem take_yes (u : Bool) : G_irq_Take 200 (ln u true) = some (ln u false, 0, 0) := by cases u <;> kernel_rfl
theorem take_no (u : Bool) : G_irq_Take 200 (ln u false) = some (S_irq_Lines.mk 0 0 0 0, 0, 4) := by cases u <;> kernel_rfl
theorem more (u : Bool) : S_irq_Lines.mk (ln u false).fEdge (ln u false).fUp (ln u false).fMasked (bits .or .i64 (ln u false).fPending 1) = ln u true := by cases u <;> kernel_rfl
theorem serves_true : G_ringlaw5_serves 200 = some true := by kernel_rfl

section
variable (had news : List Int) (rings : List Bool)
theorem c5 (q d : Int) (i : Nat) (x y : Int) (b : S_irq_Lines) (hy : had[i]? = some y) : G_irq_Serve_C5 200 had rings q d (i : Int) x news b = some (.x0 (bad1 x || bad1 y)) := by
  unfold G_irq_Serve_C5 bad1
  simp only [getI_nat, hy, Option.bind_some]
  by_cases h1 : x < 0
  · simp [h1]
  by_cases h2 : x > 100
  · simp [h1, h2]
  by_cases h3 : y < 0
  · simp [h1, h2, h3]
  simp [h1, h2, h3]
/-- one step of both -/
def stepOf (q d x y : Int) : Int × Int := if y < q + x then (q + x - y, d + y) else (0, d + (q + x))
theorem c7 (q d : Int) (i : Nat) (x y : Int) (r u p : Bool) (hx : news[i]? = some x) (hy : had[i]? = some y) (hr : rings[i]? = some r) (hb : (bad1 x || bad1 y) = false) (hq : 0 ≤ q) (hq2 : q ≤ 100000) (hd : 0 ≤ d) (hd2 : d ≤ 100000) :
    if (r || p) = true then G_irq_Serve_C7 200 had rings q d news (i : Int) (ln u p) = some (.x1 (stepOf q d x y).1 (stepOf q d x y).2 (ln (r || u) (decide ((stepOf q d x y).1 > 0))))
    else G_irq_Serve_C7 200 had rings q d news (i : Int) (ln u p) = some (.x2 (q + x) d) := by
  have hx0 : 0 ≤ x ∧ x ≤ 100 ∧ 0 ≤ y ∧ y ≤ 100 := by simp [bad1] at hb; omega
  have w1 : wi .i64 (q + x) = q + x := wi64 (by omega) (by omega)
  have hm : minI (q + x) y = if y < q + x then y else q + x := rfl
  have w2 : wi .i64 (q + x - minI (q + x) y) = (stepOf q d x y).1 := by
    rw [hm]; unfold stepOf; split <;> rw [wi64 (by omega) (by omega)] <;> simp
  have w3 : wi .i64 (d + minI (q + x) y) = (stepOf q d x y).2 := by
    rw [hm]; unfold stepOf; split <;> rw [wi64 (by omega) (by omega)]
  unfold G_irq_Serve_C7 G_irq_Serve_C6
  rw [getI_nat, hx, Option.bind_some, c5 had news rings q d i x y _ hy, Option.bind_some, hb]
  simp only [getI_nat, hr, hy, Option.bind_some]
  cases r with
  | true =>
    simp only [Bool.true_or, if_true, set_dn, set_up, Option.bind_some, take_yes, w1, w2, w3, more]
    by_cases h : (stepOf q d x y).1 > 0
    · simp [h]
    · simp [h]
  | false =>
    cases p with
    | true =>
      simp only [Bool.false_or, if_true, take_yes, Option.bind_some, w1, w2, w3, more]
      by_cases h : (stepOf q d x y).1 > 0
      · simp [h]
      · simp [h]
    | false =>
      simp only [Bool.false_or, take_no, Option.bind_some, w1]
      simp
theorem c7bad (q d : Int) (i : Nat) (x y : Int) (b : S_irq_Lines) (hx : news[i]? = some x) (hy : had[i]? = some y) (hb : (bad1 x || bad1 y) = true) : G_irq_Serve_C7 200 had rings q d news (i : Int) b = some (.x0 0 0 1) := by
  unfold G_irq_Serve_C7
  rw [getI_nat, hx, Option.bind_some, c5 had news rings q d i x y _ hy, Option.bind_some, hb]
  rfl
theorem r2 (q d : Int) (i : Nat) (x y : Int) (r p : Bool) (hx : news[i]? = some x) (hy : had[i]? = some y) (hr : rings[i]? = some r) (hb : (bad1 x || bad1 y) = false) (hq : 0 ≤ q) (hq2 : q ≤ 100000) (hd : 0 ≤ d) (hd2 : d ≤ 100000) :
    G_ringref5_ServeOf_C2 200 had news rings q d p (i : Int) = if (r || p) = true then some (.x0 (stepOf q d x y).1 (stepOf q d x y).2 (decide ((stepOf q d x y).1 > 0))) else some (.x0 (q + x) d false) := by
  have hx0 : 0 ≤ x ∧ x ≤ 100 ∧ 0 ≤ y ∧ y ≤ 100 := by simp [bad1] at hb; omega
  have w1 : wi .i64 (q + x) = q + x := wi64 (by omega) (by omega)
  have w2 : wi .i64 (q + x - y) = q + x - y := wi64 (by omega) (by omega)
  have w3 : wi .i64 (d + y) = d + y := wi64 (by omega) (by omega)
  have w4 : wi .i64 (q + x - (q + x)) = 0 := by rw [wi64 (by omega) (by omega)]; omega
  have w5 : wi .i64 (d + (q + x)) = d + (q + x) := wi64 (by omega) (by omega)
  unfold G_ringref5_ServeOf_C2 G_ringref5_ServeOf_C1
  rw [getI_nat, hx, Option.bind_some]
  simp only [getI_nat, hr, hy, Option.bind_some, w1, w2, w3, w4, w5, stepOf]
  cases p <;> cases r <;> by_cases h : y < q + x <;> simp [h]
theorem both (h1 : had.length = news.length) (h2 : rings.length = news.length) (h3 : news.length ≤ 64) : ∀ (k i : Nat) (q d : Int) (u p : Bool), news.length - i < k → i ≤ news.length → 0 ≤ q → q ≤ 100 * i → 0 ≤ d → d ≤ 100 * i →
    (((had.drop i).any bad1 || (news.drop i).any bad1) = true → G_irq_Serve_L8 200 had rings news k q d (i : Int) (ln u p) = some (.x0 0 0 1)) ∧
    (((had.drop i).any bad1 || (news.drop i).any bad1) = false → ∃ q' d', G_irq_Serve_L8 200 had rings news k q d (i : Int) (ln u p) = some (.x1 q' d') ∧ G_ringref5_ServeOf_L3 200 had news rings k q d p (i : Int) = some (.x0 q' d'))
  | 0, i, q, d, u, p, h, _, _, _, _, _ => by omega
  | k + 1, i, q, d, u, p, h, hi, hq, hq2, hd, hd2 => by
    rw [G_irq_Serve_L8, G_ringref5_ServeOf_L3]
    by_cases hlt : (i : Int) < (news.length : Int)
    · obtain ⟨x, hx⟩ := get_lt hlt
      obtain ⟨y, hy⟩ := get_lt (l := had) (i := i) (by omega)
      obtain ⟨r, hr⟩ := get_lt (l := rings) (i := i) (by omega)
      rw [if_pos hlt, if_pos hlt, drop_cons hx, drop_cons hy]
      simp only [List.any_cons]
      cases hb : (bad1 x || bad1 y) with
      | true =>
        have hb' : (bad1 y || (had.drop (i + 1)).any bad1 || (bad1 x || (news.drop (i + 1)).any bad1)) = true := by
          revert hb; cases bad1 x <;> cases bad1 y <;> simp
        rw [hb', c7bad had news rings q d i x y _ hx hy hb]
        exact ⟨fun _ => rfl, fun h => by cases h⟩
      | false =>
        have hb' : (bad1 y || (had.drop (i + 1)).any bad1 || (bad1 x || (news.drop (i + 1)).any bad1)) = ((had.drop (i + 1)).any bad1 || (news.drop (i + 1)).any bad1) := by
          revert hb; cases bad1 x <;> cases bad1 y <;> simp
        have hx0 : 0 ≤ x ∧ x ≤ 100 ∧ 0 ≤ y ∧ y ≤ 100 := by simp [bad1] at hb; omega
        rw [hb']
        have c := c7 had news rings q d i x y r u p hx hy hr hb hq (by omega) hd (by omega)
        rw [r2 had news rings q d i x y r p hx hy hr hb hq (by omega) hd (by omega)]
        have hs : 0 ≤ (stepOf q d x y).1 ∧ (stepOf q d x y).1 ≤ 100 * ((i + 1 : Nat) : Int) ∧ 0 ≤ (stepOf q d x y).2 ∧ (stepOf q d x y).2 ≤ 100 * ((i + 1 : Nat) : Int) := by
          unfold stepOf; split <;> simp <;> omega
        by_cases hp : (r || p) = true
        · rw [if_pos hp] at c
          rw [c, if_pos hp]
          simp only [Option.bind_some, wi_succ (show i < 4611686018427387904 by omega)]
          exact both h1 h2 h3 k (i + 1) _ _ _ _ (by omega) (by omega) hs.1 hs.2.1 hs.2.2.1 hs.2.2.2
        · rw [if_neg hp] at c
          rw [c, if_neg hp]
          have hpf : p = false := by revert hp; cases p <;> simp
          subst hpf
          simp only [Option.bind_some, wi_succ (show i < 4611686018427387904 by omega)]
          exact both h1 h2 h3 k (i + 1) (q + x) d u false (by omega) (by omega) (by omega) (by simp; omega) hd (by simp; omega)
    · rw [if_neg hlt, if_neg hlt, drop_end hlt, drop_end (l := had) (i := i) (by omega)]
      exact ⟨fun h => (by simp at h), fun _ => ⟨q, d, rfl, rfl⟩⟩
end
theorem law (had news : List Int) (rings : List Bool) : ∃ n, G_ringlaw5_IrqServes n had news rings = some true := by
  refine ⟨200, ?_⟩
  unfold G_ringlaw5_IrqServes
  rw [serves_true, Option.bind_some, if_pos rfl]
  unfold G_irq_Serve G_irq_Serve_C1 G_ringlaw5_IrqServes_C1
  by_cases h1 : (had.length : Int) = (news.length : Int)
  · by_cases h2 : (rings.length : Int) = (news.length : Int)
    · by_cases h3 : (news.length : Int) > 64
      · simp [h1, h2, h3, G_ringlaw5_IrqServes_C2, G_ringlaw5_IrqServes_C3]
      · have b := both had news rings (by omega) (by omega) (by omega) 200 0 0 0 false false (by omega) (by omega) (by omega) (by omega) (by omega) (by omega)
        have hln : ln false false = S_irq_Lines.mk 1 0 0 0 := rfl
        simp only [List.drop_zero] at b
        have hc : G_ringlaw5_IrqServes_C2 200 had news rings = fun r z => if z = true then some (.x0 3) else if ((had.any bad1 || news.any bad1) = true) then some (.x0 1) else some (.x0 0) := by
          funext r z
          unfold G_ringlaw5_IrqServes_C2
          have e := concat_any 197 had news (by omega) (by omega)
          have e : G_slices_Concat_int_int_h 200 [had, news] = some (had ++ news) := e
          rw [e, Option.bind_some, contains_bad 200 200 _ (by simp; omega) (by simp; omega), Option.bind_some, List.any_append]
        simp only [if_pos h1, if_pos h2, h3, decide_false, Option.bind_some, hc]
        by_cases hb : (had.any bad1 || news.any bad1) = true
        · have b := b.1 hb
          have b : G_irq_Serve_L8 200 had rings news 200 0 0 0 (S_irq_Lines.mk 1 0 0 0) = some (.x0 0 0 1) := b
          simp [b, hb, G_ringlaw5_IrqServes_C3]
        · obtain ⟨q, d, b1, b2⟩ := b.2 (by simpa using hb)
          have b1 : G_irq_Serve_L8 200 had rings news 200 0 0 0 (S_irq_Lines.mk 1 0 0 0) = some (.x1 q d) := b1
          have b2 : G_ringref5_ServeOf_L3 200 had news rings 200 0 0 false 0 = some (.x0 q d) := b2
          simp [b1, hb, G_ringref5_ServeOf, b2, G_ringlaw5_IrqServes_C4]
    · simp [h1, h2, G_ringlaw5_IrqServes_C2, G_ringlaw5_IrqServes_C3]
  · simp [h1, G_ringlaw5_IrqServes_C2, G_ringlaw5_IrqServes_C3]
end Go.Proofs.YtccmjndnjpjohaaR.irqServes
