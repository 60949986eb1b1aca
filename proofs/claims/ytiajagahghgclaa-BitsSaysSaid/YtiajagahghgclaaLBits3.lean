/- BitsSays returns true for every two sets of bits and every three numbers, and leaves its arguments alone. No condition. -/
import Derived.Test.YtiajagahghgclaaLBits2
namespace Go.Proofs.Ytiajagahghgclaa.bitsSays
open Go.ChangeShapes Go.WideShapes Go.ChangeAt Go.RowKit help rep pv
set_option linter.all false

def pop (c : Nat) : Nat := ((List.range 8).filter fun i => c.testBit i).length
theorem ones (n : Nat) {c : Nat} (hc : c < 256) : G_math_bits_OnesCount8 n (c : Int) = some ((pop c : Nat) : Int) := by
  have : ∀ c, c < 256 → G_math_bits_OnesCount8 0 ((c : Nat) : Int) = some ((pop c : Nat) : Int) := by decide +kernel
  exact this c hc
def lst (s : Fin 32 → Nat) (m : Nat) : List Nat := (List.range m).filter (bit s)
def ilst (s : Fin 32 → Nat) (m : Nat) : List Int := (lst s m).map fun j => ((j : Nat) : Int)
theorem lst_len (s : Fin 32 → Nat) (m : Nat) : (lst s m).length ≤ m := by
  unfold lst
  have := List.length_filter_le (bit s) (List.range m)
  simpa using this
theorem lst_succ (s : Fin 32 → Nat) (m : Nat) : lst s (m + 1) = lst s m ++ if bit s m = true then [m] else [] := by
  unfold lst
  rw [List.range_succ, List.filter_append]
  congr 1
  cases h : bit s m <;> simp [h]
theorem ilst_succ (s : Fin 32 → Nat) (m : Nat) : ilst s (m + 1) = ilst s m ++ if bit s m = true then [((m : Nat) : Int)] else [] := by
  unfold ilst
  rw [lst_succ, List.map_append]
  split <;> rfl
theorem lst_byte (s : Fin 32 → Nat) (x : Nat) : (lst s (8 * (x + 1))).length = (lst s (8 * x)).length + pop (bt s x) := by
  unfold lst pop
  rw [show 8 * (x + 1) = 8 * x + 8 by omega, List.range_add, List.filter_append, List.length_append, List.filter_map, List.length_map]
  congr 2
  apply List.filter_congr
  intro j hj
  have hj := List.mem_range.1 hj
  show bit s (8 * x + j) = _
  unfold bit
  rw [show (8 * x + j) / 8 = x by omega, show (8 * x + j) % 8 = j by omega]
section
variable (n : Nat) (hn : 300 ≤ n) {s : Fin 32 → Nat} (hs : by8 s)
include hs
theorem count_loop : ∀ (f x r : Nat) (c : Int), x + f = 32 → c = ((lst s (8 * x)).length : Int) → G_bits_Set_Count_L1 n (iv s) (f + 1 + r) c (x : Int) = some (.x0 ((lst s 256).length : Int))
  | 0, x, r, c, h, hc => by
    rw [show 0 + 1 + r = r + 1 by omega, G_bits_Set_Count_L1, if_neg (by omega), hc, show 8 * x = 256 by omega]
  | f + 1, x, r, c, h, hc => by
    have hl := lst_len s (8 * x)
    have hb := lst_byte s x
    have hp : pop (bt s x) ≤ 8 := by
      unfold pop
      have := List.length_filter_le (fun i => (bt s x).testBit i) (List.range 8)
      simpa using this
    rw [show f + 1 + 1 + r = (f + 1 + r) + 1 by omega, G_bits_Set_Count_L1, if_pos (by omega), get_iv (by omega), Option.bind_some, ones n (bt_lt hs x), Option.bind_some, wi_succ (by omega), wi64 (by omega) (by omega)]
    exact count_loop f (x + 1) r _ (by omega) (by omega)
include hn
theorem count_any : G_bits_Set_Count n (iv s) = some ((lst s 256).length : Int) := by
  have h := count_loop n hs 32 0 (n - 33) 0 rfl (by simp [lst])
  rw [show 32 + 1 + (n - 33) = n by omega] at h
  have h : G_bits_Set_Count_L1 n (iv s) n 0 0 = _ := h
  unfold G_bits_Set_Count
  rw [h]; rfl
theorem list_loop : ∀ (f x r : Nat) (w : List Int), x + f = 256 → w = ilst s x → G_bits_Set_List_L1 n (iv s) (f + 1 + r) (x : Int) w = some (.x0 (ilst s 256))
  | 0, x, r, w, h, hw => by
    rw [show 0 + 1 + r = r + 1 by omega, G_bits_Set_List_L1, if_neg (by omega), hw, show x = 256 by omega]
  | f + 1, x, r, w, h, hw => by
    have hl := lst_len s x
    have hwl : w.length ≤ 256 := by rw [hw]; unfold ilst; rw [List.length_map]; omega
    rw [show f + 1 + 1 + r = (f + 1 + r) + 1 by omega, G_bits_Set_List_L1, if_pos (by omega), has_nat n hs (by omega), Option.bind_some, wi_succ (by omega)]
    have e := ilst_succ s x
    cases hb : bit s x with
    | true =>
      rw [hb] at e
      rw [if_pos rfl, app_some (by simp; omega) (by omega), Option.bind_some]
      exact list_loop f (x + 1) r _ (by omega) (by rw [e, hw]; rfl)
    | false =>
      rw [hb] at e
      rw [if_neg (by decide)]
      exact list_loop f (x + 1) r _ (by omega) (by rw [e, hw]; simp)
theorem list_any : G_bits_Set_List n (iv s) = some (ilst s 256) := by
  have h := list_loop n hn hs 256 0 (n - 257) [] rfl (by simp [ilst, lst])
  rw [show 256 + 1 + (n - 257) = n by omega] at h
  have h : G_bits_Set_List_L1 n (iv s) n 0 [] = _ := h
  unfold G_bits_Set_List
  rw [h]; rfl
variable {o p q u v : Fin 32 → Nat} (k fr be : Int)
  (hp : ∀ j : Nat, j < 256 → bit p j = (bit s j || decide ((j : Int) = k))) (hq : ∀ j : Nat, j < 256 → bit q j = (bit s j && !decide ((j : Int) = k)))
  (hu : ∀ j : Nat, j < 256 → bit u j = (bit s j || bit o j)) (hv : ∀ j : Nat, j < 256 → bit v j = (bit s j && !bit o j))
include hp hq hu hv
theorem c2_ok {x : Nat} (hx : x < 256) (z : List Int) : G_ringlaw3_BitsSays_C2 n k fr be (x : Int) (iv s) (bv s) (bv o) (bv p) (bv q) (bv u) (bv v) z = some (.x0 false z) := by
  unfold G_ringlaw3_BitsSays_C2
  have hI : 0 ≤ (x : Int) ∧ (x : Int) < 256 := by omega
  have hne : ((x : Int) != k) = !decide ((x : Int) = k) := by
    by_cases h : (x : Int) = k <;> simp [h]
  have heq : ((x : Int) == k) = decide ((x : Int) = k) := by
    by_cases h : (x : Int) = k <;> simp [h]
  simp only [has_nat n hs hx, if_pos hI, getA_at hx, at_bv hx, Option.bind_some, hp x hx, hq x hx, hu x hx, hv x hx, hne, heq]
  cases bit s x <;> cases bit o x <;> cases decide ((x : Int) = k) <;> rfl
theorem l3 : ∀ (f x r : Nat) (w : List Int), x + f = 256 → w = ilst s x → G_ringlaw3_BitsSays_L3 n k fr be (iv s) (bv s) (bv o) (bv p) (bv q) (bv u) (bv v) (f + 1 + r) (x : Int) w = some (.x1 (ilst s 256))
  | 0, x, r, w, h, hw => by
    rw [show 0 + 1 + r = r + 1 by omega, G_ringlaw3_BitsSays_L3, if_neg (by omega), hw, show x = 256 by omega]
  | f + 1, x, r, w, h, hw => by
    have hl := lst_len s x
    have hx : x < 256 := by omega
    have hI : 0 ≤ (x : Int) ∧ (x : Int) < 256 := by omega
    have hwl : w.length ≤ 256 := by rw [hw]; unfold ilst; rw [List.length_map]; omega
    rw [show f + 1 + 1 + r = (f + 1 + r) + 1 by omega, G_ringlaw3_BitsSays_L3, if_pos (by omega), if_pos hI, getA_at hx, at_bv hx, Option.bind_some]
    have e := ilst_succ s x
    have hc2 := fun z => c2_ok n hn hs (o := o) (p := p) (q := q) (u := u) (v := v) k fr be hp hq hu hv hx z
    unfold G_ringlaw3_BitsSays_C1
    cases hb : bit s x with
    | true =>
      rw [hb] at e
      rw [if_pos rfl, app_some (by simp; omega) (by omega), Option.bind_some, Option.bind_some]
      simp only [hc2, Option.bind_some, Bool.false_eq_true, if_false]
      rw [wi_succ (by omega)]
      exact l3 f (x + 1) r _ (by omega) (by rw [e, hw]; rfl)
    | false =>
      rw [hb] at e
      rw [if_neg (by decide), Option.bind_some]
      simp only [hc2, Option.bind_some, Bool.false_eq_true, if_false]
      rw [wi_succ (by omega)]
      exact l3 f (x + 1) r _ (by omega) (by rw [e, hw]; simp)
end
theorem law (a b : Fin 32 → Int) (k fr be : Int) (oa : okA (n := 32) (fun a => (Lit.int .u8 a).wf = true) a) (ob : okA (n := 32) (fun a => (Lit.int .u8 a).wf = true) b) : ∃ n, G_ringlaw3_BitsSays n a b k fr be = some true := by
  have conv : ∀ c : Fin 32 → Int, okA (n := 32) (fun a => (Lit.int .u8 a).wf = true) c → ∃ s, c = iv s ∧ by8 s := by
    intro c hc
    refine ⟨fun i => (c i).toNat, ?_, fun i => ?_⟩
    · funext i
      have := wf8.1 (hc i)
      unfold iv
      rw [Int.toNat_of_nonneg this.1]
    · have := wf8.1 (hc i)
      show (c i).toNat < 256
      omega
  obtain ⟨s, rfl, hs⟩ := conv a oa
  obtain ⟨o, rfl, ho⟩ := conv b ob
  refine ⟨300, ?_⟩
  obtain ⟨p, p1, p2, p3⟩ := with_any 300 hs k
  obtain ⟨q, q1, q2, q3⟩ := without_any 300 hs k
  obtain ⟨u, u1, u2, u3⟩ := join_ok 300 hs ho (by omega)
  obtain ⟨v, v1, v2, v3⟩ := less_ok 300 hs ho (by omega)
  have h3 := l3 300 (by omega) hs k fr be p3 q3 u3 v3 256 0 43 [] rfl (by simp [ilst, lst])
  have h3 : G_ringlaw3_BitsSays_L3 300 k fr be (iv s) (bv s) (bv o) (bv p) (bv q) (bv u) (bv v) 300 0 [] = some (.x1 (ilst s 256)) := h3
  have hl : (ilst s 256).length = (lst s 256).length := by unfold ilst; rw [List.length_map]
  have hll := lst_len s 256
  have c4 : ∀ r, G_ringlaw3_BitsSays_C4 300 k r r (iv s) (ilst s 256) = some (.x0 true) := by
    intro r
    unfold G_ringlaw3_BitsSays_C4
    rw [count_any 300 (by omega) hs, Option.bind_some, hl, if_pos rfl, list_any 300 (by omega) hs, Option.bind_some, equal_self 300 _ (by omega) (by omega), Option.bind_some, if_pos rfl, if_pos rfl, if_pos rfl, has_any 300 hs]
    by_cases h1 : k ≥ 0
    · by_cases h2 : k < 256
      · simp [h1, h2]
      · simp [h1, h2]
    · have : ¬ 0 ≤ k := h1
      simp [this]
  unfold G_ringlaw3_BitsSays
  simp only [bits_any 300 (by omega) s hs, bits_any 300 (by omega) o ho, p1, bits_any 300 (by omega) p p2, q1, bits_any 300 (by omega) q q2, u1, bits_any 300 (by omega) u u2, v1, bits_any 300 (by omega) v v2, Option.bind_some, h3, first_any 300 hs be (by omega), rfirst_any 300 hs be (by omega), c4]
end Go.Proofs.Ytiajagahghgclaa.bitsSays
