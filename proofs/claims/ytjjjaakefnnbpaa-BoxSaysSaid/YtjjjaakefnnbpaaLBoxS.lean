/- BoxSays returns true for every list of ranges, number and credentials, and leaves its arguments alone. No condition. -/
import Derived.Test.YtjjjaakefnnbpaaGuBoxSays
import Derived.Test.YtjjjaakefnnbpaaLib
import Derived.ChangeOld
namespace Go.Proofs.Ytjjjaakefnnbpaa.boxSays
open Go.ChangeShapes Go.WideShapes Go.ChangeAt Go.RowKit help rep pv
set_option linter.all false

def tri (b : S_box_Range) : Fin 3 → Int := fun i : Fin 3 => [b.fIn, b.fOut, b.fN].get i
theorem map_get (l : List S_box_Range) (i : Nat) : getI (l.map tri) (i : Int) = (l[i]?).map tri := by
  rw [getI_nat]; simp
theorem app_bytes {α : Type} {xs ys : List α} (h : (xs.length + ys.length) * 24 ≤ 140737488351232) : app 24 xs ys = some (xs ++ ys) := by
  unfold app
  rw [if_pos ⟨by unfold maxLen; omega, by omega⟩]
structure V (y : S_box_Range) : Prop where
  n1 : 1 ≤ y.fN
  n2 : y.fN ≤ 100
  i0 : 0 ≤ y.fIn
  o0 : 0 ≤ y.fOut
  i1 : y.fIn + y.fN ≤ 100
  o1 : y.fOut + y.fN ≤ 100
def bad (y : S_box_Range) : Bool := decide (y.fN < 1) || decide (y.fN > 100) || decide (y.fIn < 0) || decide (y.fOut < 0) || decide (y.fIn > 100 - y.fN) || decide (y.fOut > 100 - y.fN)
theorem V_of {y : S_box_Range} (h : bad y = false) : V y := by
  simp [bad] at h
  exact ⟨by omega, by omega, by omega, by omega, by omega, by omega⟩
theorem cc1 (n : Nat) (l : List S_box_Range) (x : Int) (y : S_box_Range) : G_box_Check_C1 n l x y = some (.x0 (bad y)) := by
  unfold G_box_Check_C1 bad
  by_cases h1 : y.fN < 1
  · simp [h1]
  by_cases h2 : y.fN > 100
  · simp [h1, h2]
  have w : wi .i64 (100 - y.fN) = 100 - y.fN := wi64 (by omega) (by omega)
  by_cases h3 : y.fIn < 0
  · simp [h1, h2, h3]
  by_cases h4 : y.fOut < 0
  · simp [h1, h2, h3, h4]
  by_cases h5 : y.fIn > 100 - y.fN <;> simp [h1, h2, h3, h4, h5, w]
theorem cc4 (n : Nat) (l : List (Fin 3 → Int)) (x : Int) (A B : Fin 100 → Bool) (y : S_box_Range) : G_ringref5_BoxErr_C4 n l x A B (tri y) = some (.x0 (bad y)) := by
  unfold G_ringref5_BoxErr_C4 bad
  rw [show tri y 0 = y.fIn from rfl, show tri y 1 = y.fOut from rfl, show tri y 2 = y.fN from rfl]
  by_cases h1 : y.fN < 1
  · simp [h1]
  by_cases h2 : y.fN > 100
  · simp [h1, h2]
  have w : wi .i64 (100 - y.fN) = 100 - y.fN := wi64 (by omega) (by omega)
  by_cases h3 : y.fIn < 0
  · simp [h1, h2, h3]
  by_cases h4 : y.fOut < 0
  · simp [h1, h2, h3, h4]
  by_cases h5 : y.fIn > 100 - y.fN <;> simp [h1, h2, h3, h4, h5, w]
def mt (a c b m : Int) : Bool := decide (a < b + m) && decide (b < a + c)
theorem meet_any (n : Nat) {a c b m : Int} (h : 0 ≤ a ∧ a ≤ 100 ∧ 0 ≤ c ∧ c ≤ 100 ∧ 0 ≤ b ∧ b ≤ 100 ∧ 0 ≤ m ∧ m ≤ 100) : G_box_meet n a c b m = some (mt a c b m) := by
  unfold G_box_meet mt
  rw [wi64 (by omega) (by omega), wi64 (by omega) (by omega)]
  by_cases h1 : a < b + m <;> simp [h1]
def mts (y z : S_box_Range) : Bool := mt y.fIn y.fN z.fIn z.fN || mt y.fOut y.fN z.fOut z.fN
theorem chk2 (n : Nat) (l s : List S_box_Range) (x : Int) (y : S_box_Range) (hy : V y) (hs : ∀ z ∈ s, V z) (hl : s.length < 1000000) : ∀ (k i : Nat), s.length - i < k → i ≤ s.length → G_box_Check_L2 n l x s y k (i : Int) = if (s.drop i).any (mts y) = true then some (.x0 5) else some .x1
  | 0, i, h, _ => by omega
  | k + 1, i, h, hi => by
    rw [G_box_Check_L2]
    by_cases hlt : (i : Int) < (s.length : Int)
    · obtain ⟨z, hz⟩ := get_lt hlt
      have vz := hs z (List.mem_of_getElem? hz)
      obtain ⟨a1, a2, a3, a4, a5, a6⟩ := hy
      obtain ⟨b1, b2, b3, b4, b5, b6⟩ := vz
      rw [if_pos hlt, getI_nat, hz, Option.bind_some, meet_any n (by omega), Option.bind_some, meet_any n (by omega), Option.bind_some, drop_cons hz, List.any_cons, wi_succ (by omega), chk2 n l s x y ⟨a1, a2, a3, a4, a5, a6⟩ hs hl k (i + 1) (by omega) (by omega)]
      unfold mts
      cases mt y.fIn y.fN z.fIn z.fN <;> cases mt y.fOut y.fN z.fOut z.fN <;> simp
    · rw [if_neg hlt, drop_end hlt]; rfl
def at_ (A : Fin 100 → Bool) (j : Nat) : Bool := if h : j < 100 then A ⟨j, h⟩ else false
theorem getA_at {A : Fin 100 → Bool} {j : Nat} (h : j < 100) : getA A (j : Int) = some (at_ A j) := by
  unfold getA at_
  rw [dif_pos (by omega), dif_pos h]; rfl
theorem set_at {A : Fin 100 → Bool} {i j : Nat} (h : j < 100) : at_ (setA A (i : Int) true) j = (at_ A j || decide (j = i)) := by
  unfold at_ setA
  rw [dif_pos h, dif_pos h, Int.toNat_natCast]
  by_cases e : j = i <;> simp [e]
theorem V_nat {y : S_box_Range} (h : V y) : ∃ I O N : Nat, y = S_box_Range.mk I O N ∧ 1 ≤ N ∧ I + N ≤ 100 ∧ O + N ≤ 100 := by
  obtain ⟨a, b, c⟩ := y
  obtain ⟨h1, h2, h3, h4, h5, h6⟩ := h
  simp only at h1 h2 h3 h4 h5 h6
  refine ⟨a.toNat, b.toNat, c.toNat, ?_, by omega, by omega, by omega⟩
  rw [Int.toNat_of_nonneg h3, Int.toNat_of_nonneg h4, Int.toNat_of_nonneg (by omega)]
section
variable (n : Nat) (l : List (Fin 3 → Int)) (x : Int) {I O N : Nat} (h1 : 1 ≤ N) (h2 : I + N ≤ 100) (h3 : O + N ≤ 100)
include h1 h2 h3
theorem b5 (A B : Fin 100 → Bool) : ∀ (f i : Nat), N - i < f → i ≤ N →
    (G_ringref5_BoxErr_L5 n l x (tri (S_box_Range.mk I O N)) A B f (i : Int) = some (.x0 5) ∧ ∃ j, i ≤ j ∧ j < N ∧ (at_ A (I + j) = true ∨ at_ B (O + j) = true)) ∨
    (G_ringref5_BoxErr_L5 n l x (tri (S_box_Range.mk I O N)) A B f (i : Int) = some .x1 ∧ ∀ j, i ≤ j → j < N → at_ A (I + j) = false ∧ at_ B (O + j) = false)
  | 0, i, h, _ => by omega
  | f + 1, i, h, hi => by
    rw [G_ringref5_BoxErr_L5, show tri (S_box_Range.mk I O N) 0 = (I : Int) from rfl, show tri (S_box_Range.mk I O N) 1 = (O : Int) from rfl, show tri (S_box_Range.mk I O N) 2 = (N : Int) from rfl]
    by_cases hlt : (i : Int) < (N : Int)
    · have w1 : wi .i64 ((I : Int) + i) = ((I + i : Nat) : Int) := by rw [wi64 (by omega) (by omega)]; simp
      have w2 : wi .i64 ((O : Int) + i) = ((O + i : Nat) : Int) := by rw [wi64 (by omega) (by omega)]; simp
      have hI : 0 ≤ ((I + i : Nat) : Int) ∧ ((I + i : Nat) : Int) < 100 := by omega
      have hO : 0 ≤ ((O + i : Nat) : Int) ∧ ((O + i : Nat) : Int) < 100 := by omega
      rw [if_pos hlt, w1, w2, if_pos hI, getA_at (j := I + i) (by omega), Option.bind_some, if_pos hO, getA_at (j := O + i) (by omega), Option.bind_some, wi_succ (by omega)]
      cases ha : at_ A (I + i) with
      | true => left; exact ⟨by simp, i, by omega, by omega, .inl ha⟩
      | false =>
        cases hb : at_ B (O + i) with
        | true => left; exact ⟨by simp, i, by omega, by omega, .inr hb⟩
        | false =>
          simp only [Bool.false_eq_true, if_false]
          rcases b5 A B f (i + 1) (by omega) (by omega) with ⟨p, j, q1, q2, q3⟩ | ⟨p, q⟩
          · exact .inl ⟨p, j, by omega, q2, q3⟩
          · right
            refine ⟨p, fun j hj hj2 => ?_⟩
            by_cases e : j = i
            · subst e; exact ⟨ha, hb⟩
            · exact q j (by omega) hj2
    · right
      rw [if_neg hlt]
      exact ⟨rfl, fun j _ _ => by omega⟩
theorem b6 : ∀ (f i : Nat) (A B : Fin 100 → Bool), N - i < f → i ≤ N → ∃ A' B', G_ringref5_BoxErr_L6 n l x (tri (S_box_Range.mk I O N)) f (i : Int) A B = some (.x0 A' B') ∧
    (∀ j, j < 100 → at_ A' j = (at_ A j || (decide (I + i ≤ j) && decide (j < I + N)))) ∧ (∀ j, j < 100 → at_ B' j = (at_ B j || (decide (O + i ≤ j) && decide (j < O + N))))
  | 0, i, _, _, h, _ => by omega
  | f + 1, i, A, B, h, hi => by
    rw [G_ringref5_BoxErr_L6, show tri (S_box_Range.mk I O N) 0 = (I : Int) from rfl, show tri (S_box_Range.mk I O N) 1 = (O : Int) from rfl, show tri (S_box_Range.mk I O N) 2 = (N : Int) from rfl]
    by_cases hlt : (i : Int) < (N : Int)
    · have w1 : wi .i64 ((I : Int) + i) = ((I + i : Nat) : Int) := by rw [wi64 (by omega) (by omega)]; simp
      have w2 : wi .i64 ((O : Int) + i) = ((O + i : Nat) : Int) := by rw [wi64 (by omega) (by omega)]; simp
      have hI : 0 ≤ ((I + i : Nat) : Int) ∧ ((I + i : Nat) : Int) < 100 := by omega
      have hO : 0 ≤ ((O + i : Nat) : Int) ∧ ((O + i : Nat) : Int) < 100 := by omega
      rw [if_pos hlt, w1, w2, if_pos hI, getA_at (j := I + i) (by omega), Option.bind_some, if_pos hO, getA_at (j := O + i) (by omega), Option.bind_some, wi_succ (by omega)]
      obtain ⟨A', B', p, q, r⟩ := b6 f (i + 1) (setA A ((I + i : Nat) : Int) true) (setA B ((O + i : Nat) : Int) true) (by omega) (by omega)
      refine ⟨A', B', p, fun j hj => ?_, fun j hj => ?_⟩
      · rw [q j hj, set_at hj, Bool.or_assoc]
        congr 1
        rw [Bool.eq_iff_iff]; simp; omega
      · rw [r j hj, set_at hj, Bool.or_assoc]
        congr 1
        rw [Bool.eq_iff_iff]; simp; omega
    · rw [if_neg hlt]
      refine ⟨A, B, rfl, fun j hj => ?_, fun j hj => ?_⟩
      · have : ¬ (I + i ≤ j ∧ j < I + N) := by omega
        cases at_ A j <;> simp; omega
      · have : ¬ (O + i ≤ j ∧ j < O + N) := by omega
        cases at_ B j <;> simp; omega
end
structure Good (l : List S_box_Range) : Prop where
  len : l.length ≤ 4
  box : ∀ z ∈ l, V z
theorem l37 (n : Nat) (l : List S_box_Range) (hl : l.length ≤ 4) (hn : 200 ≤ n) : ∀ (k i : Nat) (A B : Fin 100 → Bool), l.length - i < k → i ≤ l.length → (∀ z ∈ l.take i, V z) →
    (∀ j, j < 100 → (at_ A j = true ↔ ∃ z ∈ l.take i, z.fIn ≤ (j : Int) ∧ (j : Int) < z.fIn + z.fN)) → (∀ j, j < 100 → (at_ B j = true ↔ ∃ z ∈ l.take i, z.fOut ≤ (j : Int) ∧ (j : Int) < z.fOut + z.fN)) →
    (∃ e : Int, e ≠ 0 ∧ G_box_Check_L3 n l k (i : Int) = some (.x0 e) ∧ G_ringref5_BoxErr_L7 n (l.map tri) k (i : Int) A B = some (.x0 e)) ∨
    (G_box_Check_L3 n l k (i : Int) = some .x1 ∧ G_ringref5_BoxErr_L7 n (l.map tri) k (i : Int) A B = some .x1 ∧ ∀ z ∈ l, V z)
  | 0, i, _, _, h, _, _, _, _ => by omega
  | k + 1, i, A, B, h, hi, hv, hA, hB => by
    rw [G_box_Check_L3, G_ringref5_BoxErr_L7, List.length_map]
    by_cases hlt : (i : Int) < (l.length : Int)
    · obtain ⟨y, hy⟩ := get_lt hlt
      rw [if_pos hlt, if_pos hlt, getI_nat, map_get, hy]
      simp only [Option.map_some, Option.bind_some, cc1, cc4]
      cases hb : bad y with
      | true => left; exact ⟨1, by decide, by simp, by simp⟩
      | false =>
        have vy := V_of hb
        obtain ⟨I, O, N, rfl, h1, h2, h3⟩ := V_nat vy
        simp only [Bool.false_eq_true, if_false]
        have hs : sub l 0 (i : Int) = some (l.take i) := by
          unfold sub
          rw [if_pos (by omega)]; simp
        have hlen : (l.take i).length ≤ 4 := by rw [List.length_take]; omega
        have hc := chk2 n l (l.take i) (i : Int) _ vy hv (by omega) n 0 (by omega) (by omega)
        have hc : G_box_Check_L2 n l (i : Int) (l.take i) (S_box_Range.mk I O N) n 0 = if (l.take i).any (mts (S_box_Range.mk I O N)) = true then some (.x0 5) else some .x1 := hc
        rw [hs, Option.bind_some, hc]
        rcases b5 n (l.map tri) (i : Int) h1 h2 h3 A B n 0 (by omega) (by omega) with ⟨p, j, q1, q2, q3⟩ | ⟨p, q⟩
        · have p : G_ringref5_BoxErr_L5 n (l.map tri) (i : Int) (tri (S_box_Range.mk I O N)) A B n 0 = some (.x0 5) := p
          left
          refine ⟨5, by decide, ?_, by rw [p]; rfl⟩
          rw [if_pos]
          · rfl
          rw [List.any_eq_true]
          rcases q3 with q3 | q3
          · obtain ⟨z, hz, z1, z2⟩ := (hA _ (by omega)).1 q3
            refine ⟨z, hz, ?_⟩
            have : mt (I : Int) N z.fIn z.fN = true := by simp [mt]; omega
            simp [mts, this]
          · obtain ⟨z, hz, z1, z2⟩ := (hB _ (by omega)).1 q3
            refine ⟨z, hz, ?_⟩
            have : mt (O : Int) N z.fOut z.fN = true := by simp [mt]; omega
            simp [mts, this]
        · have p : G_ringref5_BoxErr_L5 n (l.map tri) (i : Int) (tri (S_box_Range.mk I O N)) A B n 0 = some .x1 := p
          have hno : ¬ (l.take i).any (mts (S_box_Range.mk I O N)) = true := by
            intro hany
            obtain ⟨z, hz, hm⟩ := List.any_eq_true.1 hany
            obtain ⟨I', O', N', rfl, g1, g2, g3⟩ := V_nat (hv z hz)
            simp only [mts, mt, Bool.or_eq_true, Bool.and_eq_true, decide_eq_true_eq] at hm
            rcases hm with ⟨m1, m2⟩ | ⟨m1, m2⟩
            · have := (q (I' - I) (by omega) (by omega)).1
              rw [Bool.eq_false_iff] at this
              exact this ((hA _ (by omega)).2 ⟨_, hz, by show (I' : Int) ≤ _; omega, by show _ < (I' : Int) + N'; omega⟩)
            · have := (q (O' - O) (by omega) (by omega)).2
              rw [Bool.eq_false_iff] at this
              exact this ((hB _ (by omega)).2 ⟨_, hz, by show (O' : Int) ≤ _; omega, by show _ < (O' : Int) + N'; omega⟩)
          obtain ⟨A', B', p2, qa, qb⟩ := b6 n (l.map tri) (i : Int) h1 h2 h3 n 0 A B (by omega) (by omega)
          have p2 : G_ringref5_BoxErr_L6 n (l.map tri) (i : Int) (tri (S_box_Range.mk I O N)) n 0 A B = some (.x0 A' B') := p2
          rw [if_neg hno, p, Option.bind_some]
          simp only [Option.bind_some, p2]
          rw [wi_succ (by omega)]
          have htk : l.take (i + 1) = l.take i ++ [S_box_Range.mk I O N] := by rw [List.take_add_one, hy]; rfl
          refine l37 n l hl hn k (i + 1) A' B' (by omega) (by omega) ?_ ?_ ?_
          · intro z hz
            rw [htk, List.mem_append, List.mem_singleton] at hz
            rcases hz with hz | rfl
            · exact hv z hz
            · exact vy
          · intro j hj
            rw [qa j hj, Bool.or_eq_true, hA j hj, htk]
            constructor
            · rintro (⟨z, hz, e⟩ | e)
              · exact ⟨z, List.mem_append_left _ hz, e⟩
              · simp at e
                exact ⟨_, List.mem_append_right _ (List.mem_singleton.2 rfl), by show (I : Int) ≤ _; omega, by show _ < (I : Int) + N; omega⟩
            · rintro ⟨z, hz, e1, e2⟩
              rw [List.mem_append, List.mem_singleton] at hz
              rcases hz with hz | rfl
              · exact .inl ⟨z, hz, e1, e2⟩
              · right; simp only at e1 e2; simp; omega
          · intro j hj
            rw [qb j hj, Bool.or_eq_true, hB j hj, htk]
            constructor
            · rintro (⟨z, hz, e⟩ | e)
              · exact ⟨z, List.mem_append_left _ hz, e⟩
              · simp at e
                exact ⟨_, List.mem_append_right _ (List.mem_singleton.2 rfl), by show (O : Int) ≤ _; omega, by show _ < (O : Int) + N; omega⟩
            · rintro ⟨z, hz, e1, e2⟩
              rw [List.mem_append, List.mem_singleton] at hz
              rcases hz with hz | rfl
              · exact .inl ⟨z, hz, e1, e2⟩
              · right; simp only at e1 e2; simp; omega
    · right
      rw [if_neg hlt, if_neg hlt]
      have : l.take i = l := List.take_of_length_le (by omega)
      rw [this] at hv
      exact ⟨rfl, rfl, hv⟩
def Z : Fin 100 → Bool := fun _ => false
theorem checks (n : Nat) (l : List S_box_Range) (hn : 200 ≤ n) : ∃ r : Int, G_box_Check n l = some r ∧ G_ringref5_BoxErr n (l.map tri) = some r ∧ (r = 0 → Good l) := by
  unfold G_box_Check G_ringref5_BoxErr
  rw [List.length_map, show (fun (_ : Fin 100) => false) = Z from rfl]
  by_cases h : (l.length : Int) > 4
  · rw [if_pos h, if_pos h]
    exact ⟨2, rfl, rfl, fun h => absurd h (by decide : ¬ (2 : Int) = 0)⟩
  · rw [if_neg h, if_neg h]
    have hz : ∀ j, j < 100 → at_ Z j = false := by intro j hj; unfold at_ Z; simp
    rcases l37 n l (by omega) hn n 0 Z Z (by omega) (by omega) (by simp) (fun j hj => by rw [hz j hj]; simp) (fun j hj => by rw [hz j hj]; simp) with ⟨e, he, h1, h2⟩ | ⟨h1, h2, h3⟩
    · have h1 : G_box_Check_L3 n l n 0 = some (.x0 e) := h1
      have h2 : G_ringref5_BoxErr_L7 n (l.map tri) n 0 Z Z = some (.x0 e) := h2
      rw [h1, h2]
      exact ⟨e, rfl, rfl, fun h => absurd h he⟩
    · have h1 : G_box_Check_L3 n l n 0 = some .x1 := h1
      have h2 : G_ringref5_BoxErr_L7 n (l.map tri) n 0 Z Z = some .x1 := h2
      rw [h1, h2]
      exact ⟨0, rfl, rfl, fun _ => ⟨by omega, h3⟩⟩
theorem boxes_true (m : Nat) : G_ringlaw5_boxes (m + 200) = some true := by kernel_rfl
theorem eqS_refl (x : S_box_Range) : eqS_box_Range x x = true := by
  unfold eqS_box_Range
  simp
theorem equal_loopR (n : Nat) (l : List S_box_Range) (hl : l.length < 1000000) : ∀ (k i : Nat), l.length - i < k → i ≤ l.length → G_slices_Equal_box_Range_box_Range_L1 n l l k (i : Int) = some .x1
  | 0, i, h, _ => by omega
  | k + 1, i, h, hi => by
    rw [G_slices_Equal_box_Range_box_Range_L1]
    by_cases hlt : (i : Int) < (l.length : Int)
    · obtain ⟨x, hx⟩ := get_lt hlt
      rw [if_pos hlt, getI_nat, hx, Option.bind_some, Option.bind_some, eqS_refl, if_neg (by decide), wi_succ (by omega)]
      exact equal_loopR n l hl k (i + 1) (by omega) (by omega)
    · rw [if_neg hlt]
theorem equal_selfR (n : Nat) (l : List S_box_Range) (hl : l.length < 1000000) (hn : l.length < n) : G_slices_Equal_box_Range_box_Range n l l = some true := by
  unfold G_slices_Equal_box_Range_box_Range
  have := equal_loopR n l hl n 0 (by omega) (by omega)
  have : G_slices_Equal_box_Range_box_Range_L1 n l l n 0 = some .x1 := this
  rw [if_pos rfl, this]; rfl
theorem trip (n : Nat) (l : List S_box_Range) (hb : l.length * 24 ≤ 140737488351232) (hn : l.length < n) : G_ringlaw5_triples n l = some (l.map tri) := by
  have loop : ∀ (f i : Nat) (w : List (Fin 3 → Int)), l.length - i < f → i ≤ l.length → w = (l.take i).map tri → G_ringlaw5_triples_L1 n l f (i : Int) w = some (.x0 (l.map tri)) := by
    intro f
    induction f with
    | zero => intro i w h _ _; omega
    | succ f ih =>
      intro i w h hi hw
      rw [G_ringlaw5_triples_L1]
      by_cases hlt : (i : Int) < (l.length : Int)
      · obtain ⟨x, hx⟩ := get_lt hlt
        have hwl : w.length = i := by rw [hw]; simp; omega
        rw [if_pos hlt, getI_nat, hx, Option.bind_some, show (fun i : Fin 3 => [x.fIn, x.fOut, x.fN].get i) = tri x from rfl, app_bytes (by rw [hwl]; simp; omega), Option.bind_some, wi_succ (by omega)]
        exact ih (i + 1) _ (by omega) (by omega) (by rw [List.take_add_one, hx, hw]; simp)
      · rw [if_neg hlt]
        have : l.take i = l := List.take_of_length_le (by omega)
        rw [hw, this]
  unfold G_ringlaw5_triples
  have h := loop n 0 [] (by omega) (by omega) (by simp)
  have h : G_ringlaw5_triples_L1 n l n 0 [] = some (.x0 (l.map tri)) := h
  rw [h]; rfl
def inr (z : S_box_Range) (v : Int) : Bool := decide (z.fIn ≤ v) && decide (v < z.fIn + z.fN)
def fnd : List S_box_Range → Int → Option Int
  | [], _ => none
  | z :: zs, v => if inr z v = true then some (z.fOut + v - z.fIn) else fnd zs v
theorem fnd_bd : ∀ {l : List S_box_Range} {v r : Int}, (∀ z ∈ l, V z) → fnd l v = some r → 0 ≤ r ∧ r < 100
  | [], v, r, _, h => by simp [fnd] at h
  | z :: zs, v, r, hv, h => by
    have vz := hv z (List.mem_cons_self ..)
    obtain ⟨a1, a2, a3, a4, a5, a6⟩ := vz
    rw [fnd] at h
    split at h
    · rename_i hi
      simp [inr] at hi
      have := Option.some.inj h
      omega
    · exact fnd_bd (fun x hx => hv x (List.mem_cons_of_mem _ hx)) h
section
variable (n : Nat) {l : List S_box_Range} (g : Good l) {v : Int}
include g
theorem to_loop : ∀ (k i : Nat), l.length - i < k → i ≤ l.length → G_box_To_L1 n v l k (i : Int) = some (match fnd (l.drop i) v with | some r => .x0 r 0 | none => .x1)
  | 0, i, h, _ => by omega
  | k + 1, i, h, hi => by
    have hgl := g.len
    rw [G_box_To_L1]
    by_cases hlt : (i : Int) < (l.length : Int)
    · obtain ⟨z, hz⟩ := get_lt hlt
      obtain ⟨a1, a2, a3, a4, a5, a6⟩ := g.box z (List.mem_of_getElem? hz)
      have w1 : wi .i64 (z.fIn + z.fN) = z.fIn + z.fN := wi64 (by omega) (by omega)
      rw [if_pos hlt, getI_nat, hz, Option.bind_some, drop_cons hz, fnd, w1, wi_succ (by omega), to_loop k (i + 1) (by omega) (by omega)]
      unfold inr
      by_cases c1 : z.fIn ≤ v
      · by_cases c2 : v < z.fIn + z.fN
        · have w2 : wi .i64 (z.fOut + v) = z.fOut + v := wi64 (by omega) (by omega)
          have w3 : wi .i64 (z.fOut + v - z.fIn) = z.fOut + v - z.fIn := wi64 (by omega) (by omega)
          simp [c1, c2, w2, w3]
        · simp [c1, c2]
      · simp [c1]
    · rw [if_neg hlt, drop_end hlt]; rfl
theorem to_any (hn : 200 ≤ n) (hc : G_box_Check n l = some 0) : G_box_To n l v = some (match fnd l v with | some r => (r, 0) | none => (0, 4)) := by
  have hgl := g.len
  unfold G_box_To
  have h := to_loop n g (v := v) n 0 (by omega) (by omega)
  have h : G_box_To_L1 n v l n 0 = some (match fnd l v with | some r => .x0 r 0 | none => .x1) := h
  rw [hc, Option.bind_some, if_pos rfl, h]
  cases fnd l v <;> rfl
theorem bt1 (L : List (Fin 3 → Int)) (x : Int) {I O N : Nat} (h1 : 1 ≤ N) (h2 : I + N ≤ 100) (h3 : O + N ≤ 100) : ∀ (f i : Nat), N - i < f → i ≤ N → G_ringref5_BoxTo_L1 n v L x (tri (S_box_Range.mk I O N)) f (i : Int) = if (I : Int) + i ≤ v ∧ v < (I : Int) + N then some (.x0 ((O : Int) + v - I)) else some .x1
  | 0, i, h, _ => by omega
  | f + 1, i, h, hi => by
    rw [G_ringref5_BoxTo_L1, show tri (S_box_Range.mk I O N) 0 = (I : Int) from rfl, show tri (S_box_Range.mk I O N) 1 = (O : Int) from rfl, show tri (S_box_Range.mk I O N) 2 = (N : Int) from rfl]
    by_cases hlt : (i : Int) < (N : Int)
    · have w1 : wi .i64 ((I : Int) + i) = (I : Int) + i := wi64 (by omega) (by omega)
      have w2 : wi .i64 ((O : Int) + i) = (O : Int) + i := wi64 (by omega) (by omega)
      rw [if_pos hlt, w1, w2, wi_succ (by omega), bt1 L x h1 h2 h3 f (i + 1) (by omega) (by omega)]
      by_cases e : (I : Int) + i = v
      · rw [if_pos e, if_pos (by omega)]
        congr 2; omega
      · rw [if_neg e]
        by_cases c : (I : Int) + i ≤ v ∧ v < (I : Int) + N
        · rw [if_pos c, if_pos (by omega)]
        · rw [if_neg c, if_neg (by omega)]
    · rw [if_neg hlt, if_neg (by omega)]
theorem boxto_any (hn : 200 ≤ n) : G_ringref5_BoxTo n (l.map tri) v = some (match fnd l v with | some r => r | none => -1) := by
  have hgl := g.len
  have loop : ∀ (k i : Nat), l.length - i < k → i ≤ l.length → G_ringref5_BoxTo_L2 n v (l.map tri) k (i : Int) = some (match fnd (l.drop i) v with | some r => .x0 r | none => .x1) := by
    intro k
    induction k with
    | zero => intro i h _; omega
    | succ k ih =>
      intro i h hi
      rw [G_ringref5_BoxTo_L2, List.length_map]
      by_cases hlt : (i : Int) < (l.length : Int)
      · obtain ⟨z, hz⟩ := get_lt hlt
        obtain ⟨I, O, N, rfl, h1, h2, h3⟩ := V_nat (g.box z (List.mem_of_getElem? hz))
        have hb := bt1 n g (v := v) (l.map tri) (i : Int) h1 h2 h3 n 0 (by omega) (by omega)
        have hb : G_ringref5_BoxTo_L1 n v (l.map tri) (i : Int) (tri (S_box_Range.mk I O N)) n 0 = if (I : Int) + (0 : Nat) ≤ v ∧ v < (I : Int) + N then some (.x0 ((O : Int) + v - I)) else some .x1 := hb
        rw [if_pos hlt, map_get, hz, Option.map_some, Option.bind_some, hb, drop_cons hz, fnd, wi_succ (by omega)]
        unfold inr
        by_cases c : (I : Int) + (0 : Nat) ≤ v ∧ v < (I : Int) + N
        · rw [if_pos c, if_pos (by simp; omega)]; rfl
        · rw [if_neg c, if_neg (by simp; omega), Option.bind_some]
          exact ih (i + 1) (by omega) (by omega)
      · rw [if_neg hlt, drop_end hlt]; rfl
  unfold G_ringref5_BoxTo
  have h := loop n 0 (by omega) (by omega)
  have h : G_ringref5_BoxTo_L2 n v (l.map tri) n 0 = some (match fnd l v with | some r => .x0 r | none => .x1) := h
  rw [h]
  cases fnd l v <;> rfl
end
theorem equal_loop (n : Nat) (l : List Int) (hl : l.length < 1000000) : ∀ (k i : Nat), l.length - i < k → i ≤ l.length → G_slices_Equal_int_int_L1 n l l k (i : Int) = some .x1
  | 0, i, h, _ => by omega
  | k + 1, i, h, hi => by
    rw [G_slices_Equal_int_int_L1]
    by_cases hlt : (i : Int) < (l.length : Int)
    · obtain ⟨x, hx⟩ := get_lt hlt
      rw [if_pos hlt, getI_nat, hx, Option.bind_some, Option.bind_some, if_pos rfl, wi_succ (by omega)]
      exact equal_loop n l hl k (i + 1) (by omega) (by omega)
    · rw [if_neg hlt]
theorem equal_self (n : Nat) (l : List Int) (hl : l.length < 1000000) (hn : l.length < n) : G_slices_Equal_int_int n l l = some true := by
  unfold G_slices_Equal_int_int
  have := equal_loop n l hl n 0 (by omega) (by omega)
  have : G_slices_Equal_int_int_L1 n l l n 0 = some .x1 := this
  rw [if_pos rfl, this]; rfl
/-- credentials that are right -/
def okc (c : S_api_Cred) : Prop := c.fMore.length ≤ 4 ∧ 0 ≤ c.fCaps ∧ c.fCaps ≤ 127
theorem l1_eq (n : Nat) (c : S_api_Cred) : G_cred_Check_L1 (n + 3) c (n + 3) 0 = if c.fUser < 0 then some (.x0 1) else if c.fUser > 99 then some (.x0 1) else if c.fGroup < 0 then some (.x0 1) else if c.fGroup > 99 then some (.x0 1) else some .x1 := by
  have g0 : getI [c.fUser, c.fGroup] 0 = some c.fUser := rfl
  have g1 : getI [c.fUser, c.fGroup] 1 = some c.fGroup := rfl
  have w1 : wi .i64 ((0 : Int) + 1) = 1 := rfl
  have w2 : wi .i64 ((1 : Int) + 1) = 2 := rfl
  have t3 : G_cred_Check_L1 (n + 3) c (n + 1) 2 = some .x1 := by rw [G_cred_Check_L1, if_neg (by simp)]
  have t2 : G_cred_Check_L1 (n + 3) c (n + 2) 1 = if c.fGroup < 0 then some (.x0 1) else if c.fGroup > 99 then some (.x0 1) else some .x1 := by rw [G_cred_Check_L1, if_pos (by simp), g1, Option.bind_some, w2, t3]
  rw [G_cred_Check_L1, if_pos (by simp), g0, Option.bind_some, w1, t2]
theorem ids_any (n : Nat) (c : S_api_Cred) : ∃ b : Bool, G_ringref5_CredErr_C1 (n + 3) c = some (.x0 b) ∧ G_cred_Check_L1 (n + 3) c (n + 3) 0 = some (if b then .x0 1 else .x1) := by
  rw [l1_eq]
  by_cases h : 0 ≤ c.fUser ∧ c.fUser ≤ 99 ∧ 0 ≤ c.fGroup ∧ c.fGroup ≤ 99
  · refine ⟨false, ?_, ?_⟩
    · unfold G_ringref5_CredErr_C1 minI maxI
      rw [if_neg (by split <;> omega)]
      have : ¬ ((if c.fGroup > c.fUser then c.fGroup else c.fUser) > 99) := by split <;> omega
      simp only [decide_eq_false this]
    · rw [if_neg (by omega), if_neg (by omega), if_neg (by omega), if_neg (by omega)]; rfl
  · refine ⟨true, ?_, ?_⟩
    · unfold G_ringref5_CredErr_C1 minI maxI
      by_cases h' : (if c.fGroup < c.fUser then c.fGroup else c.fUser) < 0
      · rw [if_pos h']
      · rw [if_neg h']
        have : ((if c.fGroup > c.fUser then c.fGroup else c.fUser) > 99) := by split at h' <;> split <;> omega
        simp only [decide_eq_true this]
    · by_cases a1 : c.fUser < 0
      · rw [if_pos a1]; rfl
      by_cases a2 : c.fUser > 99
      · rw [if_neg a1, if_pos a2]; rfl
      by_cases a3 : c.fGroup < 0
      · rw [if_neg a1, if_neg a2, if_pos a3]; rfl
      by_cases a4 : c.fGroup > 99
      · rw [if_neg a1, if_neg a2, if_neg a3, if_pos a4]; rfl
      omega
theorem more_any (n : Nat) (c : S_api_Cred) (hl : c.fMore.length < 1000000) : ∀ (k i : Nat) (last : Int), c.fMore.length - i < k → i ≤ c.fMore.length → (i = 0 → last = -1) → (∀ j, i = j + 1 → c.fMore[j]? = some last) →
    (∃ e : Int, e ≠ 0 ∧ G_cred_Check_L2 n c k (i : Int) = some (.x0 e) ∧ G_ringref5_CredErr_L2 n c k last (i : Int) = some (.x0 e)) ∨ (G_cred_Check_L2 n c k (i : Int) = some .x1 ∧ G_ringref5_CredErr_L2 n c k last (i : Int) = some .x1)
  | 0, i, last, h, _, _, _ => by omega
  | k + 1, i, last, h, hi, h0, hj => by
    rw [G_cred_Check_L2, G_ringref5_CredErr_L2]
    by_cases hlt : (i : Int) < (c.fMore.length : Int)
    · obtain ⟨x, hx⟩ := get_lt hlt
      rw [if_pos hlt, if_pos hlt, getI_nat, hx, Option.bind_some, Option.bind_some]
      by_cases h1 : x < 0
      · exact .inl ⟨1, by decide, by rw [if_pos h1], by rw [if_pos h1]⟩
      by_cases h2 : x > 99
      · exact .inl ⟨1, by decide, by rw [if_neg h1, if_pos h2], by rw [if_neg h1, if_pos h2]⟩
      rw [if_neg h1, if_neg h1, if_neg h2, if_neg h2, wi_succ (by omega)]
      have ih := more_any n c hl k (i + 1) x (by omega) (by omega) (by omega) (fun j e => by
        have : j = i := by omega
        subst this; exact hx)
      cases i with
      | zero =>
        rw [h0 rfl, if_neg (by omega), if_neg (by omega)]
        exact ih
      | succ j =>
        have hy := hj j rfl
        rw [if_pos (by omega)]
        have e : wi .i64 (((j + 1 : Nat) : Int) - 1) = (j : Int) := by rw [wi64 (by omega) (by omega)]; omega
        rw [e, getI_nat, hy, Option.bind_some]
        by_cases h4 : x ≤ last
        · exact .inl ⟨3, by decide, by rw [if_pos h4], by rw [if_pos h4]⟩
        · rw [if_neg h4, if_neg h4]; exact ih
    · rw [if_neg hlt, if_neg hlt]; exact .inr ⟨rfl, rfl⟩
theorem caps_any (n : Nat) (c : S_api_Cred) : ∃ b, G_cred_Check_C3 n c = some (.x0 b) ∧ G_ringref5_CredErr_C3 n c = some (.x0 b) ∧ (b = false → 0 ≤ c.fCaps ∧ c.fCaps ≤ 127) := by
  by_cases h : 0 ≤ c.fCaps ∧ c.fCaps ≤ 127 ∧ 0 ≤ c.fLevel ∧ c.fLevel ≤ 7 ∧ 0 ≤ c.fKind ∧ c.fKind ≤ 255
  · refine ⟨false, ?_, ?_, fun _ => ⟨h.1, h.2.1⟩⟩
    · unfold G_cred_Check_C3
      rw [if_neg (by omega), if_neg (by omega), if_neg (by omega), if_neg (by omega), if_neg (by omega), decide_eq_false (by omega)]
    · unfold G_ringref5_CredErr_C3 minI
      rw [if_neg (by split <;> split at * <;> omega), if_neg (by omega), if_neg (by omega), decide_eq_false (by omega)]
  · refine ⟨true, ?_, ?_, by simp⟩
    · unfold G_cred_Check_C3
      by_cases h1 : c.fCaps < 0
      · rw [if_pos h1]
      by_cases h2 : c.fCaps > 127
      · rw [if_neg h1, if_pos h2]
      by_cases h3 : c.fLevel < 0
      · rw [if_neg h1, if_neg h2, if_pos h3]
      by_cases h4 : c.fLevel > 7
      · rw [if_neg h1, if_neg h2, if_neg h3, if_pos h4]
      by_cases h5 : c.fKind < 0
      · rw [if_neg h1, if_neg h2, if_neg h3, if_neg h4, if_pos h5]
      rw [if_neg h1, if_neg h2, if_neg h3, if_neg h4, if_neg h5, decide_eq_true (by omega)]
    · unfold G_ringref5_CredErr_C3
      by_cases h1 : minI (minI c.fCaps c.fLevel) c.fKind < 0
      · rw [if_pos h1]
      have h1' : 0 ≤ c.fCaps ∧ 0 ≤ c.fLevel ∧ 0 ≤ c.fKind := by
        unfold minI at h1
        split at h1 <;> split at h1 <;> omega
      by_cases h2 : c.fCaps > 127
      · rw [if_neg h1, if_pos h2]
      by_cases h4 : c.fLevel > 7
      · rw [if_neg h1, if_neg h2, if_pos h4]
      rw [if_neg h1, if_neg h2, if_neg h4, decide_eq_true (by omega)]
theorem check_any (n : Nat) (hn : 20 ≤ n) (c : S_api_Cred) : ∃ e, G_cred_Check n c = some e ∧ G_ringref5_CredErr n c = some e ∧ (e = 0 → okc c) := by
  obtain ⟨m, rfl⟩ : ∃ m, n = m + 3 := ⟨n - 3, by omega⟩
  unfold G_cred_Check G_ringref5_CredErr
  obtain ⟨b, h1, h2⟩ := ids_any m c
  rw [h1, h2, Option.bind_some, Option.bind_some]
  cases b with
  | true => exact ⟨1, rfl, rfl, by simp⟩
  | false =>
    simp only [Bool.false_eq_true, if_false]
    by_cases hm : (c.fMore.length : Int) > 4
    · exact ⟨2, by simp only [if_pos hm], by simp only [if_pos hm], by simp⟩
    · simp only [if_neg hm]
      rcases more_any (m + 3) c (by omega) (m + 3) 0 (-1) (by omega) (by omega) (fun _ => rfl) (fun j h => by omega) with ⟨e, h3, h4, h5⟩ | ⟨h4, h5⟩
      · have h4 : G_cred_Check_L2 (m + 3) c (m + 3) 0 = _ := h4
        have h5 : G_ringref5_CredErr_L2 (m + 3) c (m + 3) (-1) 0 = _ := h5
        rw [h4, h5]
        exact ⟨e, rfl, rfl, fun h => absurd h h3⟩
      · have h4 : G_cred_Check_L2 (m + 3) c (m + 3) 0 = _ := h4
        have h5 : G_ringref5_CredErr_L2 (m + 3) c (m + 3) (-1) 0 = _ := h5
        obtain ⟨b, h6, h7, h8⟩ := caps_any (m + 3) c
        rw [h4, h5]
        simp only [Option.bind_some, h6, h7]
        cases b
        · exact ⟨0, by simp, by simp, fun _ => ⟨by omega, h8 rfl⟩⟩
        · exact ⟨1, by simp, by simp, by simp⟩
theorem less_any (n : Nat) (x y : Int) : G_cmp_Less_int n x y = some (decide (x < y)) := by
  unfold G_cmp_Less_int G_cmp_Less_int_C1 G_cmp_isNaN_int
  simp
/-- w is sorted up to i, but for what stands at j, which is less than all behind it -/
def sunk (w : List Int) (i j : Nat) : Prop := (∀ p q x y, p < q → q ≤ i → p ≠ j → q ≠ j → w[p]? = some x → w[q]? = some y → x ≤ y) ∧ (∀ q x y, j < q → q ≤ i → w[j]? = some x → w[q]? = some y → x ≤ y)
def sortedTo (w : List Int) (i : Nat) : Prop := ∀ p q x y, p < q → q < i → w[p]? = some x → w[q]? = some y → x ≤ y
theorem sink_any (n : Nat) (b ii : Int) : ∀ (k j : Nat) (w : List Int) (i : Nat), j < k → j ≤ i → i < w.length → w.length < 1000 → sunk w i j →
    ∃ r, G_slices_insertionSortOrdered_int_h_L1 n 0 b ii k (j : Int) w = some (.x0 r) ∧ r.Perm w ∧ sortedTo r (i + 1)
  | 0, j, w, i, h, _, _, _, _ => by omega
  | k + 1, j, w, i, h, hji, hi, hl, hs => by
    rw [G_slices_insertionSortOrdered_int_h_L1]
    cases j with
    | zero =>
      rw [if_neg (by simp)]
      refine ⟨w, rfl, List.Perm.refl _, fun p q x y hpq hq hx hy => ?_⟩
      cases p with
      | zero => exact hs.2 q x y hpq (by omega) hx hy
      | succ p => exact hs.1 (p + 1) q x y hpq (by omega) (by omega) (by omega) hx hy
    | succ j =>
      have e1 : wi .i64 (((j + 1 : Nat) : Int) - 1) = (j : Int) := by rw [wi64 (by omega) (by omega)]; omega
      have h1 : j + 1 < w.length := by omega
      have h0 : j < w.length := by omega
      rw [if_pos (by omega), if_pos ⟨by omega, by simpa using h1⟩, e1]
      simp only [Int.toNat_natCast]
      rw [List.getElem?_eq_getElem h1, Option.bind_some, if_pos ⟨by omega, h0⟩, List.getElem?_eq_getElem h0, Option.bind_some, less_any, Option.bind_some]
      by_cases hlt : w[j + 1] < w[j]
      · rw [if_pos (by simpa using hlt), if_pos ⟨by omega, h0⟩, Option.bind_some, if_pos ⟨by omega, h1⟩, Option.bind_some, if_pos ⟨by omega, h1⟩, Option.bind_some]
        have h0' : j < (w.set (j + 1) w[j]).length := by simpa using h0
        rw [if_pos ⟨by omega, h0'⟩, List.getElem?_eq_getElem h0', Option.bind_some]
        have hp : ((w.set (j + 1) w[j]).set j w[j + 1]).Perm w := List.set_set_perm h1 h0
        have hlen := hp.length_eq
        have hget : ∀ (p : Nat), ((w.set (j + 1) w[j]).set j w[j + 1])[p]? = if p = j then some w[j + 1] else if p = j + 1 then some w[j] else w[p]? := by
          intro p
          rw [List.getElem?_set, List.getElem?_set]
          by_cases a : p = j
          · subst a; simp [h0]
          · rw [if_neg (fun e => a e.symm), if_neg a]
            by_cases b : p = j + 1
            · subst b; simp [h1]
            · rw [if_neg (fun e => b e.symm), if_neg b]
        obtain ⟨r, r1, r2, r3⟩ := sink_any n b ii k j _ i (by omega) (by omega) (by rw [hlen]; exact hi) (by rw [hlen]; exact hl) (by
          refine ⟨fun p q x y hpq hq hp' hq' hx hy => ?_, fun q x y hq hqi hx hy => ?_⟩
          · rw [hget] at hx hy
            rw [if_neg hp'] at hx
            rw [if_neg hq'] at hy
            by_cases a : p = j + 1
            · rw [if_pos a] at hx
              rw [if_neg (by omega)] at hy
              cases hx
              exact hs.1 j q _ _ (by omega) hq (by omega) (by omega) (List.getElem?_eq_getElem h0) hy
            · rw [if_neg a] at hx
              by_cases c : q = j + 1
              · rw [if_pos c] at hy
                cases hy
                exact hs.1 p j _ _ (by omega) (by omega) a (by omega) hx (List.getElem?_eq_getElem h0)
              · rw [if_neg c] at hy
                exact hs.1 p q x y hpq hq a c hx hy
          · rw [hget] at hx hy
            rw [if_pos rfl] at hx
            cases hx
            rw [if_neg (by omega)] at hy
            by_cases c : q = j + 1
            · rw [if_pos c] at hy
              cases hy
              omega
            · rw [if_neg c] at hy
              exact hs.2 q _ y (by omega) hqi (List.getElem?_eq_getElem h1) hy)
        exact ⟨r, r1, r2.trans hp, r3⟩
      · rw [if_neg (by simpa using hlt)]
        refine ⟨w, rfl, List.Perm.refl _, fun p q x y hpq hq hx hy => ?_⟩
        by_cases a : p = j + 1
        · subst a; exact hs.2 q x y hpq (by omega) hx hy
        · by_cases c : q = j + 1
          · subst c
            rw [List.getElem?_eq_getElem h1] at hy
            cases hy
            by_cases d : p = j
            · subst d
              rw [List.getElem?_eq_getElem h0] at hx
              cases hx
              omega
            · have := hs.1 p j x _ (by omega) (by omega) a (by omega) hx (List.getElem?_eq_getElem h0)
              omega
          · exact hs.1 p q x y hpq (by omega) a c hx hy
theorem isort_any (n : Nat) : ∀ (k i : Nat) (w : List Int), w.length - i < k → w.length < n → w.length < 1000 → 0 < i → sortedTo w i →
    ∃ r, G_slices_insertionSortOrdered_int_h_L2 n 0 (w.length : Int) k (i : Int) w = some (.x0 r) ∧ r.Perm w ∧ sortedTo r w.length
  | 0, i, w, h, _, _, _, _ => by omega
  | k + 1, i, w, h, hn, hl, h0, hs => by
    rw [G_slices_insertionSortOrdered_int_h_L2]
    by_cases hlt : (i : Int) < (w.length : Int)
    · rw [if_pos hlt]
      obtain ⟨r, r1, r2, r3⟩ := sink_any n (w.length : Int) (i : Int) n i w i (by omega) (Nat.le_refl _) (by omega) hl
        ⟨fun p q x y hpq hq _ hq' hx hy => hs p q x y hpq (by omega) hx hy, fun q x y hq hqi _ _ => by omega⟩
      rw [r1, Option.bind_some]
      have hlen := r2.length_eq
      simp only [wi_succ (show i < 4611686018427387904 by omega)]
      rw [← hlen]
      obtain ⟨r', q1, q2, q3⟩ := isort_any n k (i + 1) r (by omega) (by omega) (by omega) (by omega) r3
      exact ⟨r', q1, q2.trans r2, q3⟩
    · rw [if_neg hlt]
      exact ⟨w, rfl, List.Perm.refl _, fun p q x y hpq hq hx hy => hs p q x y hpq (by omega) hx hy⟩
theorem getS_lt (s : ByteArray) (j : Int) (h0 : 0 ≤ j) (h1 : j.toNat < s.size) : ∃ y, getS s j = some y := by
  unfold getS
  rw [if_pos h0]
  have : s[j.toNat]? = some s[j.toNat] := by rw [getElem?_pos]
  rw [this]
  exact ⟨_, rfl⟩
theorem len_aux (s : ByteArray) (j : Int) (g : Int → Int) (h0 : 0 ≤ j) (h1 : j.toNat < s.size) : ∃ r, ((getS s j).bind fun y => some (g y)).bind (fun r => some r) = some r := by
  obtain ⟨y, hy⟩ := getS_lt s j h0 h1
  rw [hy]; exact ⟨_, rfl⟩
theorem len_any (n m : Nat) (h : m < 256) : ∃ r, G_math_bits_Len n (wi .u64 (m : Int)) = some r := by
  have e : wi .u64 (m : Int) = (m : Int) := by rw [wi, IntKind.wrap_u64]; omega
  unfold G_math_bits_Len G_math_bits_Len64
  rw [e, if_neg (by omega), if_neg (by omega), if_neg (by omega)]
  refine len_aux _ _ _ ?_ ?_
  · rw [wu8 (by omega) (by omega)]; omega
  · rw [wu8 (by omega) (by omega)]
    refine Nat.lt_of_lt_of_le (m := 256) (by simpa using h) (Nat.le_of_eq ?_)
    decide +kernel
theorem sort_any (n : Nat) (xs : List Int) (hl : xs.length ≤ 12) (hn : 14 ≤ n) : ∃ r, G_slices_Sort_int_int_h n xs = some r ∧ r.Perm xs ∧ r.Pairwise (· ≤ ·) := by
  unfold G_slices_Sort_int_int_h
  obtain ⟨l, hl'⟩ := len_any n xs.length (by omega)
  rw [hl', Option.bind_some]
  unfold G_slices_pdqsortOrdered_int_h
  obtain ⟨m, rfl⟩ : ∃ m, n = m + 1 := ⟨n - 1, by omega⟩
  obtain ⟨r, r1, r2, r3⟩ := isort_any (m + 1) (m + 1) 1 xs (by omega) (by omega) (by omega) (by omega) (fun p q x y hpq hq _ _ => by omega)
  have hi : G_slices_insertionSortOrdered_int_h (m + 1) xs 0 (xs.length : Int) = some r := by
    unfold G_slices_insertionSortOrdered_int_h
    rw [show wi .i64 ((0 : Int) + 1) = ((1 : Nat) : Int) from rfl, r1]; rfl
  have hp : G_slices_pdqsortOrdered_int_h_L1 (m + 1) (m + 1) 0 (xs.length : Int) l true true xs = some (.x0 r) := by
    rw [G_slices_pdqsortOrdered_int_h_L1, if_pos (by rw [wi64 (by omega) (by omega)]; omega), hi]; rfl
  rw [hp]
  refine ⟨r, rfl, r2, ?_⟩
  rw [List.pairwise_iff_getElem]
  intro p q hp hq hpq
  exact r3 p q _ _ hpq (by rw [← r2.length_eq]; exact hq) (List.getElem?_eq_getElem hp) (List.getElem?_eq_getElem hq)
/-- two sorted lists of the same numbers are one -/
theorem sorted_eq {a b : List Int} (hp : a.Perm b) (ha : a.Pairwise (· ≤ ·)) (hb : b.Pairwise (· ≤ ·)) : a = b := hp.eq_of_pairwise (fun _ _ _ _ h1 h2 => by omega) ha hb
def swp (z : S_box_Range) : S_box_Range := S_box_Range.mk z.fOut z.fIn z.fN
theorem good_swp {l : List S_box_Range} (g : Good l) : Good (l.map swp) := by
  refine ⟨by simpa using g.len, fun z hz => ?_⟩
  obtain ⟨y, hy, rfl⟩ := List.mem_map.1 hz
  obtain ⟨a1, a2, a3, a4, a5, a6⟩ := g.box y hy
  exact ⟨a1, a2, a4, a3, a6, a5⟩
section
variable (n : Nat) {l : List S_box_Range} (g : Good l) {v : Int}
include g
theorem from_loop : ∀ (k i : Nat), l.length - i < k → i ≤ l.length → G_box_From_L1 n v l k (i : Int) = some (match fnd ((l.map swp).drop i) v with | some r => .x0 r 0 | none => .x1)
  | 0, i, h, _ => by omega
  | k + 1, i, h, hi => by
    have hgl := g.len
    rw [G_box_From_L1]
    by_cases hlt : (i : Int) < (l.length : Int)
    · obtain ⟨z, hz⟩ := get_lt hlt
      obtain ⟨a1, a2, a3, a4, a5, a6⟩ := g.box z (List.mem_of_getElem? hz)
      have hz' : (l.map swp)[i]? = some (swp z) := by simp [hz]
      have w1 : wi .i64 (z.fOut + z.fN) = z.fOut + z.fN := wi64 (by omega) (by omega)
      rw [if_pos hlt, getI_nat, hz, Option.bind_some, drop_cons hz', fnd, w1, wi_succ (by omega), from_loop k (i + 1) (by omega) (by omega)]
      unfold inr swp
      by_cases c1 : z.fOut ≤ v
      · by_cases c2 : v < z.fOut + z.fN
        · have w2 : wi .i64 (z.fIn + v) = z.fIn + v := wi64 (by omega) (by omega)
          have w3 : wi .i64 (z.fIn + v - z.fOut) = z.fIn + v - z.fOut := wi64 (by omega) (by omega)
          simp [c1, c2, w2, w3]
        · simp [c1, c2]
      · simp [c1]
    · rw [if_neg hlt, drop_end (l := l.map swp) (by simpa using hlt)]; rfl
theorem from_any (hn : 200 ≤ n) (hc : G_box_Check n l = some 0) : G_box_From n l v = some (match fnd (l.map swp) v with | some r => (r, 0) | none => (0, 4)) := by
  have hgl := g.len
  unfold G_box_From
  have h := from_loop n g (v := v) n 0 (by omega) (by omega)
  have h : G_box_From_L1 n v l n 0 = some (match fnd (l.map swp) v with | some r => .x0 r 0 | none => .x1) := h
  rw [hc, Option.bind_some, if_pos rfl, h]
  cases fnd (l.map swp) v <;> rfl
end
section
variable (n : Nat) {l : List S_box_Range} (hl : l.length ≤ 4)
include hl
theorem back_any (v : Int) (r105 r117 : Int × Int) (r245 : S_api_Cred × Int) (c : S_api_Cred) (hn : 200 ≤ n) : G_ringlaw5_BoxSays_L2 n v r105 r117 r245 (l.map tri) c n 0 ([] : List (Fin 3 → Int)) = some (.x0 ((l.map swp).map tri)) := by
  have loop : ∀ (f i : Nat) (w : List (Fin 3 → Int)), l.length - i < f → i ≤ l.length → w = ((l.map swp).take i).map tri → G_ringlaw5_BoxSays_L2 n v r105 r117 r245 (l.map tri) c f (i : Int) w = some (.x0 ((l.map swp).map tri)) := by
    intro f
    induction f with
    | zero => intro i w h _ _; omega
    | succ f ih =>
      intro i w h hi hw
      rw [G_ringlaw5_BoxSays_L2, List.length_map]
      by_cases hlt : (i : Int) < (l.length : Int)
      · obtain ⟨x, hx⟩ := get_lt hlt
        have hwl : w.length = i := by rw [hw]; simp; omega
        rw [if_pos hlt, map_get, hx, Option.map_some, Option.bind_some, show (fun i : Fin 3 => [tri x 1, tri x 0, tri x 2].get i) = tri (swp x) from rfl, app_some (by rw [hwl]; simp; omega) (by omega), Option.bind_some, wi_succ (by omega)]
        refine ih (i + 1) _ (by omega) (by omega) ?_
        rw [hw, List.take_add_one, List.getElem?_map, hx]
        simp
      · rw [if_neg hlt, hw, List.take_of_length_le (by simp; omega)]
  exact loop n 0 [] (by omega) (by omega) (by simp)
/-- what numbers become, -1 for none -/
def fv (l : List S_box_Range) (v : Int) : Int := match fnd l v with | some r => r | none => -1
theorem fv_cases (hv : ∀ z ∈ l, V z) (v : Int) : (∃ r, fnd l v = some r ∧ fv l v = r ∧ 0 ≤ r) ∨ (fnd l v = none ∧ fv l v = -1) := by
  unfold fv
  cases h : fnd l v with
  | none => exact .inr ⟨rfl, rfl⟩
  | some r => exact .inl ⟨r, rfl, rfl, (fnd_bd hv h).1⟩
end
end Go.Proofs.Ytjjjaakefnnbpaa.boxSays
