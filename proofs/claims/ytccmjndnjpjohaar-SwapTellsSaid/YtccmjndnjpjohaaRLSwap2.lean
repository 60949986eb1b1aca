/- SwapTells returns true for every list of slots, every data, and every four numbers, and leaves its arguments alone. No condition. -/
import Derived.Test.YtccmjndnjpjohaaRLSwap
namespace Go.Proofs.YtccmjndnjpjohaaR.swapTells
open Go.ChangeShapes Go.WideShapes Go.ChangeAt Go.RowKit help rep pv
set_option linter.all false

def nws (size : Int) : List S_swap_Slot := List.replicate size.toNat (S_swap_Slot.mk 0 (fun _ => 0))
theorem mkl_ok (size : Int) (h : 0 ≤ size ∧ size ≤ 64) : mkL 24 (S_swap_Slot.mk 0 (fun _ => 0)) size = some (nws size) := by
  unfold mkL
  rw [if_pos ⟨h.1, by unfold maxLen; omega, by omega⟩]
  rfl
theorem new_ok (n : Nat) (size : Int) : G_swap_New n size = if size < 0 ∨ 64 < size then some ([], 1) else some (nws size, 0) := by
  unfold G_swap_New
  by_cases h1 : size < 0
  · rw [if_pos h1, if_pos (.inl h1)]
  by_cases h2 : size > 64
  · rw [if_neg h1, if_pos h2, if_pos (.inr h2)]
  rw [if_neg h1, if_neg h2, if_neg (by omega), mkl_ok size (by omega)]
  rfl
theorem c1_ok (n : Nat) (hn : 100 ≤ n) (l : List S_swap_Slot) (size many k more : Int) (r44 : List S_swap_Slot × Int × Int) (r60 : (Fin 16 → Int) × Int) (r81 : List S_swap_Slot × Bool × Int) (r94 : Int × Int × Int) (data : Fin 16 → Int) :
    G_ringlaw2_SwapTells_C1 n l size many k more (if size < 0 ∨ 64 < size then ([], 1) else (nws size, 0)) r44 r60 r81 r94 data = some (.x0 false) := by
  unfold G_ringlaw2_SwapTells_C1
  rw [in_any]
  by_cases h : size < 0 ∨ 64 < size
  · have e : (decide (0 ≤ size) && decide (size ≤ 64)) = false := by
      rw [Bool.eq_false_iff]; simp; omega
    rw [if_pos h, e]
    simp
  · have e : (decide (0 ≤ size) && decide (size ≤ 64)) = true := by simp; omega
    rw [if_neg h, e]
    have hs := same_self n (nws size) (by unfold nws; simp; omega) (by unfold nws; simp; omega)
    simp [mkl_ok size (by omega), hs]
theorem fails (n : Nat) (l : List S_swap_Slot) (data : Fin 16 → Int) (many k more r : Int) (hr : r ≠ 0) (hc : G_swap_Check n l = some r) : G_swap_Put n l data many = some ([], 0, r) ∧ G_swap_Get n l k = some (z16, r) ∧ G_swap_More n l k more = some ([], false, r) ∧ G_swap_Many n l = some (0, 0, r) := by
  have hu : G_swap_used n l k = some r := by
    unfold G_swap_used G_swap_used_C1
    rw [hc, Option.bind_some, if_neg hr]
    rfl
  refine ⟨?_, ?_, ?_, ?_⟩
  · unfold G_swap_Put; rw [hc, Option.bind_some, if_neg hr]
  · unfold G_swap_Get; rw [hu, Option.bind_some, if_neg hr, lit16]
  · unfold G_swap_More; rw [hu, Option.bind_some, if_neg hr]
  · unfold G_swap_Many; rw [hc, Option.bind_some, if_neg hr]
def putr (l : List S_swap_Slot) (data : Fin 16 → Int) (many : Int) : List S_swap_Slot × Int × Int := if many < 1 ∨ 1024 < many then ([], 0, 1) else match fi l 0 with
  | none => ([], 0, 6)
  | some j => (l.set j (S_swap_Slot.mk many data), (j : Int), 0)
section
variable (n : Nat) (hn : 100 ≤ n) {l : List S_swap_Slot} (g : Good l) (hc : G_swap_Check n l = some 0)
include hn g hc
theorem clone_any : G_slices_Clone_swap_Slot_swap_Slot n l = some l := by
  have hgl := g.len
  unfold G_slices_Clone_swap_Slot_swap_Slot
  rw [app_bytes (by simp; omega)]; simp
theorem with_any {K : Nat} {y : S_swap_Slot} (hy : l[K]? = some y) (s : S_swap_Slot) : G_ringref2_SlotWith n l (K : Int) s = some (l.set K s) := by
  have hgl := g.len
  have hK := (List.getElem?_eq_some_iff.1 hy).1
  have q : 0 ≤ (K : Int) ∧ K < l.length := by omega
  unfold G_ringref2_SlotWith
  rw [app_bytes (by simp; omega), Option.bind_some, List.nil_append]
  simp only [Int.toNat_natCast, if_pos q, hy, Option.bind_some]
theorem set_same (K : Nat) (s : S_swap_Slot) : G_ringref2_SlotSame n (l.set K s) (l.set K s) = some true := by
  have hgl := g.len
  exact same_self n _ (by simp; omega) (by simp; omega)
theorem put_ok (data : Fin 16 → Int) (many : Int) : G_swap_Put n l data many = some (putr l data many) := by
  unfold G_swap_Put putr
  rw [hc, Option.bind_some, if_pos rfl]
  by_cases h1 : many < 1
  · rw [if_pos h1, if_pos (.inl h1)]
  by_cases h2 : many > 1024
  · rw [if_neg h1, if_pos h2, if_pos (.inr h2)]
  rw [if_neg h1, if_neg h2, if_neg (by omega), idx_any n hn g, Option.bind_some]
  cases hf : fi l 0 with
  | none => rw [if_pos (by simp [fz])]
  | some j =>
    have hj := fi_lt hf
    rw [Nat.zero_add] at hj
    have q : 0 ≤ (j : Int) ∧ j < l.length := by omega
    rw [if_neg (by simp [fz]), clone_any n hn g hc, Option.bind_some]
    simp only [fz, Int.toNat_natCast, if_pos q, List.getElem?_eq_getElem hj, Option.bind_some]
theorem many_ok : G_swap_Many n l = some ((cnt l : Int), sm l, 0) := by
  have hgl := g.len
  unfold G_swap_Many
  have h := many_loop n hn g n 0 0 0 (by omega) (by omega) (by omega) (by omega) (by omega) (by omega)
  have h : G_swap_Many_L1 n l n 0 0 0 = some (.x0 (0 + (cnt l : Int)) (0 + sm l)) := h
  rw [hc, Option.bind_some, if_pos rfl, h]
  simp
def inuse (l : List S_swap_Slot) (k : Int) : Bool := decide (0 ≤ k) && (match l[k.toNat]? with | some y => y.fMany != 0 | none => false)
omit hn g hc in
theorem inuse_yes {k : Int} (h : inuse l k = true) : ∃ (K : Nat) (y : S_swap_Slot), k = (K : Int) ∧ l[K]? = some y ∧ y.fMany ≠ 0 := by
  unfold inuse at h
  rw [Bool.and_eq_true, decide_eq_true_eq] at h
  obtain ⟨K, rfl⟩ := Int.eq_ofNat_of_zero_le h.1
  obtain ⟨_, h2⟩ := h
  rw [Int.toNat_natCast] at h2
  cases hy : l[K]? with
  | none => rw [hy] at h2; simp at h2
  | some y => rw [hy] at h2; exact ⟨K, y, rfl, hy, by simpa using h2⟩
theorem used_ok (k : Int) : G_swap_used n l k = some (if inuse l k = true then 0 else 4) := by
  unfold G_swap_used G_swap_used_C1
  rw [hc, Option.bind_some, if_pos rfl]
  by_cases h1 : k < 0
  · have : inuse l k = false := by unfold inuse; simp; omega
    simp [h1, this]
  by_cases h2 : k ≥ (l.length : Int)
  · have : inuse l k = false := by
      unfold inuse
      rw [List.getElem?_eq_none (by omega)]; simp
    simp [h1, h2, this]
  obtain ⟨K, rfl⟩ := Int.eq_ofNat_of_zero_le (show 0 ≤ k by omega)
  obtain ⟨y, hy⟩ := get_lt (l := l) (i := K) (by omega)
  have : inuse l (K : Int) = (y.fMany != 0) := by
    unfold inuse
    rw [Int.toNat_natCast, hy]; simp
  rw [if_neg h1, if_neg h2, getI_nat, hy, this]
  by_cases h3 : y.fMany = 0 <;> simp [h3]
theorem c8_ok (k more : Int) (r60 : (Fin 16 → Int) × Int) (r81 : List S_swap_Slot × Bool × Int) : G_ringlaw2_SwapTells_C8 n l k more r60 r81 = some (.x0 (!inuse l k)) := by
  have hgl := g.len
  unfold G_ringlaw2_SwapTells_C8
  have w : wi .i64 ((l.length : Int) - 1) = (l.length : Int) - 1 := wi64 (by omega) (by omega)
  rw [in_any, w, Option.bind_some]
  by_cases h1 : k < 0
  · have : inuse l k = false := by unfold inuse; simp; omega
    rw [if_neg (by simp; omega), this]; rfl
  by_cases h2 : k ≥ (l.length : Int)
  · have : inuse l k = false := by
      unfold inuse
      rw [List.getElem?_eq_none (by omega)]; simp
    rw [if_neg (by simp; omega), this]; rfl
  obtain ⟨K, rfl⟩ := Int.eq_ofNat_of_zero_le (show 0 ≤ k by omega)
  obtain ⟨y, hy⟩ := get_lt (l := l) (i := K) (by omega)
  have : inuse l (K : Int) = (y.fMany != 0) := by
    unfold inuse
    rw [Int.toNat_natCast, hy]; simp
  rw [if_pos (by simp; omega), getI_nat, hy, this]
  by_cases h3 : y.fMany = 0
  · simp [h3]
  · have e : (y.fMany == 0) = false := by simpa using h3
    simp [bne, e]
theorem more_yes {K : Nat} {y : S_swap_Slot} (hy : l[K]? = some y) (hm : y.fMany ≠ 0) (more : Int) : G_swap_More n l (K : Int) more = some (if more < -y.fMany ∨ 1024 - y.fMany < more then ([], false, 1) else if y.fMany + more = 0 then (l.set K (S_swap_Slot.mk 0 z16), true, 0) else (l.set K (S_swap_Slot.mk (y.fMany + more) y.fData), false, 0)) := by
  have hgl := g.len
  have hK := (List.getElem?_eq_some_iff.1 hy).1
  have hb := g.box y (List.mem_of_getElem? hy)
  have hu : inuse l (K : Int) = true := by
    unfold inuse
    rw [Int.toNat_natCast, hy]; simp [hm]
  unfold G_swap_More G_swap_More_C1
  have w1 : negI .i64 y.fMany = -y.fMany := by
    show wi .i64 (0 - y.fMany) = _
    rw [wi64 (by omega) (by omega)]; omega
  have w2 : wi .i64 (1024 - y.fMany) = 1024 - y.fMany := wi64 (by omega) (by omega)
  rw [used_ok n hn g hc, hu, Option.bind_some, if_pos rfl, if_pos rfl, getI_nat, hy, Option.bind_some, Option.bind_some, w1, w2, lit16]
  by_cases h1 : more < -y.fMany
  · rw [if_pos h1, if_pos (.inl h1)]; rfl
  by_cases h2 : more > 1024 - y.fMany
  · rw [if_neg h1, if_pos (.inr h2)]
    simp [h2]
  have w3 : wi .i64 (y.fMany + more) = y.fMany + more := wi64 (by omega) (by omega)
  have q : 0 ≤ (K : Int) ∧ K < l.length := by omega
  have q2 : ∀ s, 0 ≤ (K : Int) ∧ K < (l.set K s).length := fun s => by simp; omega
  have q3 : ∀ s s', 0 ≤ (K : Int) ∧ K < ((l.set K s).set K s').length := fun s s' => by simp; omega
  have q4 : ∀ s : S_swap_Slot, (l.set K s)[K]? = some s := fun s => List.getElem?_set_self hK
  rw [if_neg h1, if_neg (by omega), decide_eq_false h2, Option.bind_some]
  simp only [Bool.false_eq_true, if_false, clone_any n hn g hc, Option.bind_some, Int.toNat_natCast, if_pos q, hy, w3, if_pos (q2 _), q4, List.set_set]
  by_cases h3 : y.fMany + more = 0
  · simp [h3]
  · simp [h3]
theorem law_good (size : Int) (data : Fin 16 → Int) (many k more : Int) : G_ringlaw2_SwapTells n l size data many k more = some true := by
  have hgl := g.len
  obtain ⟨r, p1, p2, p3⟩ := checks n l hn
  rw [hc] at p1
  obtain rfl := Option.some.inj p1
  have hf : ∀ a b c d, G_ringlaw2_SwapTells_L4 n l many k more a b c d data n (-1) 0 0 0 = some (.x0 (fz (fi l 0)) (cnt l) (sm l)) := by
    intro a b c d
    have h := free_loop n hn g many k more a b c d data n 0 (-1) 0 0 (by omega) (by omega) (by omega) (by omega) (by omega) (by omega)
    have h : G_ringlaw2_SwapTells_L4 n l many k more a b c d data n (-1) 0 0 0 = some (.x0 (match fi l 0 with | some j => (j : Int) | none => -1) (0 + (cnt l : Int)) (0 + sm l)) := h
    rw [h, Int.zero_add, Int.zero_add]
    unfold fz
    cases fi l 0 <;> rfl
  have c5 : ∀ a b c, G_ringlaw2_SwapTells_C5 n l many k more a b c ((cnt l : Int), sm l, 0) (fz (fi l 0)) (cnt l) (sm l) data = some (.x0 false) := by
    intro a b c
    unfold G_ringlaw2_SwapTells_C5
    simp
  unfold G_ringlaw2_SwapTells
  have hnew : G_swap_New n size = some (if size < 0 ∨ 64 < size then ([], 1) else (nws size, 0)) := by
    rw [new_ok]; split <;> rfl
  rw [hnew, put_ok n hn g hc, many_ok n hn g hc]
  have hc8 := c8_ok n hn g hc k more
  -- the answer of Put
  have c67 : ∀ a b, ∃ z, G_ringlaw2_SwapTells_C6 n l many k more (putr l data many) a b (fz (fi l 0)) (decide (1 ≤ many) && decide (many ≤ 1024)) data = some (.x0 z) ∧
      G_ringlaw2_SwapTells_C7 n l many k more (putr l data many) a b (fz (fi l 0)) z data = some (.x0 false) := by
    intro a b
    unfold G_ringlaw2_SwapTells_C6 G_ringlaw2_SwapTells_C7 putr
    by_cases h : many < 1 ∨ 1024 < many
    · have e : (decide (1 ≤ many) && decide (many ≤ 1024)) = false := by rw [Bool.eq_false_iff]; simp; omega
      refine ⟨1, by rw [e]; rfl, ?_⟩
      rw [if_pos h]
      simp
    · have e : (decide (1 ≤ many) && decide (many ≤ 1024)) = true := by simp; omega
      rw [if_neg h, e]
      cases hfi : fi l 0 with
      | none => exact ⟨6, by simp [fz], by simp⟩
      | some j =>
        have hj := fi_lt hfi
        rw [Nat.zero_add] at hj
        refine ⟨0, by rw [if_pos rfl, if_neg (by simp [fz])], ?_⟩
        simp only [fz, if_true, with_any n hn g hc (List.getElem?_eq_getElem hj), set_same n hn g hc, Option.bind_some]
        rfl
  have hc1 := c1_ok n hn l size many k more (putr l data many)
  generalize hP : putr l data many = P at *
  generalize hQ : (if size < 0 ∨ 64 < size then ([], 1) else (nws size, 0) : List S_swap_Slot × Int) = Q at *
  cases hu : inuse l k with
  | false =>
    have hused := used_ok n hn g hc k
    rw [hu] at hused
    have hget : G_swap_Get n l k = some (z16, 4) := by
      unfold G_swap_Get; rw [hused, lit16]; rfl
    have hmore : G_swap_More n l k more = some ([], false, 4) := by
      unfold G_swap_More; rw [hused]; rfl
    obtain ⟨z, h6, h7⟩ := c67 (z16, 4) ([], false, 4)
    have c9 : G_ringlaw2_SwapTells_C9 n (z16, 4) ([], false, 4) = some (.x0 true) := by
      unfold G_ringlaw2_SwapTells_C9
      rw [lit16]
      simp [eqA_refl, eqRes]
    simp only [hget, hmore, Option.bind_some, hc1, Bool.false_eq_true, if_false, p2, hc, if_true, hf, c5, in_any, h6, h7, hc8, hu, Bool.not_false, c9]
  | true =>
    obtain ⟨K, y, rfl, hy, hm⟩ := inuse_yes hu
    have hb := g.box y (List.mem_of_getElem? hy)
    have hused := used_ok n hn g hc (K : Int)
    rw [hu] at hused
    have hget : G_swap_Get n l (K : Int) = some (y.fData, 0) := by
      unfold G_swap_Get; rw [hused, Option.bind_some, if_pos rfl, if_pos rfl, getI_nat, hy]; rfl
    have hmore := more_yes n hn g hc hy hm more
    have w1 : negI .i64 y.fMany = -y.fMany := by
      show wi .i64 (0 - y.fMany) = _
      rw [wi64 (by omega) (by omega)]; omega
    have w2 : wi .i64 (1024 - y.fMany) = 1024 - y.fMany := wi64 (by omega) (by omega)
    have hne : eqRes .neq (eqA_16_uint8 y.fData y.fData) = false := by rw [eqA_refl]; rfl
    by_cases h1 : more < -y.fMany ∨ 1024 - y.fMany < more
    · rw [if_pos h1] at hmore
      obtain ⟨z, h6, h7⟩ := c67 (y.fData, 0) ([], false, 1)
      have e : (decide (-y.fMany ≤ more) && decide (more ≤ 1024 - y.fMany)) = false := by rw [Bool.eq_false_iff]; simp; omega
      have c10 : G_ringlaw2_SwapTells_C10 n ([], false, 1) = some (.x0 true) := rfl
      simp only [hget, hmore, Option.bind_some, hc1, Bool.false_eq_true, if_false, p2, hc, if_true, hf, c5, in_any, h6, h7, hc8, hu, Bool.not_true, getI_nat, hy, hne, w1, w2, e, c10]
    · rw [if_neg h1] at hmore
      have e : (decide (-y.fMany ≤ more) && decide (more ≤ 1024 - y.fMany)) = true := by simp; omega
      have w3 : wi .i64 (y.fMany + more) = y.fMany + more := wi64 (by omega) (by omega)
      by_cases h3 : y.fMany + more = 0
      · rw [if_pos h3] at hmore
        have z0 : wi .i64 (0 : Int) = 0 := rfl
        obtain ⟨z, h6, h7⟩ := c67 (y.fData, 0) (l.set K (S_swap_Slot.mk 0 z16), true, 0)
        have c11 : G_ringlaw2_SwapTells_C11 n l (K : Int) (l.set K (S_swap_Slot.mk 0 z16), true, 0) = some (.x0 true) := by
          unfold G_ringlaw2_SwapTells_C11
          rw [lit16, with_any n hn g hc hy, Option.bind_some, set_same n hn g hc]
          rfl
        simp only [hget, hmore, Option.bind_some, hc1, Bool.false_eq_true, if_false, p2, hc, if_true, hf, c5, in_any, h6, h7, hc8, hu, Bool.not_true, getI_nat, hy, hne, w1, w2, e, w3, h3, z0, c11]
      · rw [if_neg h3] at hmore
        obtain ⟨z, h6, h7⟩ := c67 (y.fData, 0) (l.set K (S_swap_Slot.mk (y.fMany + more) y.fData), false, 0)
        have c12 : G_ringlaw2_SwapTells_C12 n l (K : Int) (l.set K (S_swap_Slot.mk (y.fMany + more) y.fData), false, 0) y more y = some (.x0 true) := by
          unfold G_ringlaw2_SwapTells_C12
          rw [w3, with_any n hn g hc hy, Option.bind_some, set_same n hn g hc]
          have : (y.fMany + more == 0) = false := by simpa using h3
          simp [this, eqRes]
        simp only [hget, hmore, Option.bind_some, hc1, Bool.false_eq_true, if_false, p2, hc, if_true, hf, c5, in_any, h6, h7, hc8, hu, Bool.not_true, getI_nat, hy, hne, w1, w2, e, w3, h3, c12]
end
theorem law (l : List S_swap_Slot) (size : Int) (data : Fin 16 → Int) (many k more : Int) : ∃ n, G_ringlaw2_SwapTells n l size data many k more = some true := by
  refine ⟨100, ?_⟩
  obtain ⟨r, p1, p2, p3⟩ := checks 100 l (by omega)
  by_cases hr : r = 0
  · subst hr
    exact law_good 100 (by omega) (p3 rfl) p1 size data many k more
  · obtain ⟨h1, h2, h3, h4⟩ := fails 100 l data many k more r hr p1
    have hnew : G_swap_New 100 size = some (if size < 0 ∨ 64 < size then ([], 1) else (nws size, 0)) := by
      rw [new_ok]; split <;> rfl
    have c2 : G_ringlaw2_SwapTells_C2 100 ([], 0, r) (z16, r) ([], false, r) (0, 0, r) r = some (.x0 true) := by
      unfold G_ringlaw2_SwapTells_C2
      rw [lit16]
      have z0 : wi .i64 (0 : Int) = 0 := rfl
      simp [eqA_refl, eqRes, z0]
    unfold G_ringlaw2_SwapTells
    simp only [hnew, h1, h2, h3, h4, Option.bind_some, c1_ok 100 (by omega), Bool.false_eq_true, if_false, p1, p2, if_true, if_neg hr, c2]
end Go.Proofs.YtccmjndnjpjohaaR.swapTells
