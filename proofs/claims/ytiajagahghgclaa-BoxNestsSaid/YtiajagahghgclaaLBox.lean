/- BoxNests returns true for every two lists of ranges, and leaves its arguments alone. No condition. -/
import Derived.Test.YtiajagahghgclaaGuBoxNests
import Derived.Test.YtiajagahghgclaaMath
import Derived.ChangeOld
namespace Go.Proofs.Ytiajagahghgclaa.boxNests
open Go.ChangeShapes Go.WideShapes Go.ChangeAt Go.RowKit help rep pv
set_option linter.all false

def tri (b : S_box_Range) : Fin 3 → Int := fun i : Fin 3 => [b.fIn, b.fOut, b.fN].get i
theorem map_get (l : List S_box_Range) (i : Nat) : getI (l.map tri) (i : Int) = (l[i]?).map tri := by
  rw [getI_nat]; simp
theorem app_bytes {α : Type} {xs ys : List α} (h : (xs.length + ys.length) * 24 ≤ 140737488351232) : app 24 xs ys = some (xs ++ ys) := by
  unfold app
  rw [if_pos ⟨by unfold maxLen; omega, by omega⟩]
structure V (y : S_box_Range) : Prop where
  n1 : 1 ≤ y.fN
  n2 : y.fN ≤ 100
  i0 : 0 ≤ y.fIn
  o0 : 0 ≤ y.fOut
  i1 : y.fIn + y.fN ≤ 100
  o1 : y.fOut + y.fN ≤ 100
def bad (y : S_box_Range) : Bool := decide (y.fN < 1) || decide (y.fN > 100) || decide (y.fIn < 0) || decide (y.fOut < 0) || decide (y.fIn > 100 - y.fN) || decide (y.fOut > 100 - y.fN)
theorem V_of {y : S_box_Range} (h : bad y = false) : V y := by
  simp [bad] at h
  exact ⟨by omega, by omega, by omega, by omega, by omega, by omega⟩
theorem cc1 (n : Nat) (l : List S_box_Range) (x : Int) (y : S_box_Range) : G_box_Check_C1 n l x y = some (.x0 (bad y)) := by
  unfold G_box_Check_C1 bad
  by_cases h1 : y.fN < 1
  · simp [h1]
  by_cases h2 : y.fN > 100
  · simp [h1, h2]
  have w : wi .i64 (100 - y.fN) = 100 - y.fN := wi64 (by omega) (by omega)
  by_cases h3 : y.fIn < 0
  · simp [h1, h2, h3]
  by_cases h4 : y.fOut < 0
  · simp [h1, h2, h3, h4]
  by_cases h5 : y.fIn > 100 - y.fN <;> simp [h1, h2, h3, h4, h5, w]
theorem cc4 (n : Nat) (l : List (Fin 3 → Int)) (x : Int) (A B : Fin 100 → Bool) (y : S_box_Range) : G_ringref5_BoxErr_C4 n l x A B (tri y) = some (.x0 (bad y)) := by
  unfold G_ringref5_BoxErr_C4 bad
  rw [show tri y 0 = y.fIn from rfl, show tri y 1 = y.fOut from rfl, show tri y 2 = y.fN from rfl]
  by_cases h1 : y.fN < 1
  · simp [h1]
  by_cases h2 : y.fN > 100
  · simp [h1, h2]
  have w : wi .i64 (100 - y.fN) = 100 - y.fN := wi64 (by omega) (by omega)
  by_cases h3 : y.fIn < 0
  · simp [h1, h2, h3]
  by_cases h4 : y.fOut < 0
  · simp [h1, h2, h3, h4]
  by_cases h5 : y.fIn > 100 - y.fN <;> simp [h1, h2, h3, h4, h5, w]
def mt (a c b m : Int) : Bool := decide (a < b + m) && decide (b < a + c)
theorem meet_any (n : Nat) {a c b m : Int} (h : 0 ≤ a ∧ a ≤ 100 ∧ 0 ≤ c ∧ c ≤ 100 ∧ 0 ≤ b ∧ b ≤ 100 ∧ 0 ≤ m ∧ m ≤ 100) : G_box_meet n a c b m = some (mt a c b m) := by
  unfold G_box_meet mt
  rw [wi64 (by omega) (by omega), wi64 (by omega) (by omega)]
  by_cases h1 : a < b + m <;> simp [h1]
def mts (y z : S_box_Range) : Bool := mt y.fIn y.fN z.fIn z.fN || mt y.fOut y.fN z.fOut z.fN
theorem chk2 (n : Nat) (l s : List S_box_Range) (x : Int) (y : S_box_Range) (hy : V y) (hs : ∀ z ∈ s, V z) (hl : s.length < 1000000) : ∀ (k i : Nat), s.length - i < k → i ≤ s.length → G_box_Check_L2 n l x s y k (i : Int) = if (s.drop i).any (mts y) = true then some (.x0 5) else some .x1
  | 0, i, h, _ => by omega
  | k + 1, i, h, hi => by
    rw [G_box_Check_L2]
    by_cases hlt : (i : Int) < (s.length : Int)
    · obtain ⟨z, hz⟩ := get_lt hlt
      have vz := hs z (List.mem_of_getElem? hz)
      obtain ⟨a1, a2, a3, a4, a5, a6⟩ := hy
      obtain ⟨b1, b2, b3, b4, b5, b6⟩ := vz
      rw [if_pos hlt, getI_nat, hz, Option.bind_some, meet_any n (by omega), Option.bind_some, meet_any n (by omega), Option.bind_some, drop_cons hz, List.any_cons, wi_succ (by omega), chk2 n l s x y ⟨a1, a2, a3, a4, a5, a6⟩ hs hl k (i + 1) (by omega) (by omega)]
      unfold mts
      cases mt y.fIn y.fN z.fIn z.fN <;> cases mt y.fOut y.fN z.fOut z.fN <;> simp
    · rw [if_neg hlt, drop_end hlt]; rfl
def at_ (A : Fin 100 → Bool) (j : Nat) : Bool := if h : j < 100 then A ⟨j, h⟩ else false
theorem getA_at {A : Fin 100 → Bool} {j : Nat} (h : j < 100) : getA A (j : Int) = some (at_ A j) := by
  unfold getA at_
  rw [dif_pos (by omega), dif_pos h]; rfl
theorem set_at {A : Fin 100 → Bool} {i j : Nat} (h : j < 100) : at_ (setA A (i : Int) true) j = (at_ A j || decide (j = i)) := by
  unfold at_ setA
  rw [dif_pos h, dif_pos h, Int.toNat_natCast]
  by_cases e : j = i <;> simp [e]
theorem V_nat {y : S_box_Range} (h : V y) : ∃ I O N : Nat, y = S_box_Range.mk I O N ∧ 1 ≤ N ∧ I + N ≤ 100 ∧ O + N ≤ 100 := by
  obtain ⟨a, b, c⟩ := y
  obtain ⟨h1, h2, h3, h4, h5, h6⟩ := h
  simp only at h1 h2 h3 h4 h5 h6
  refine ⟨a.toNat, b.toNat, c.toNat, ?_, by omega, by omega, by omega⟩
  rw [Int.toNat_of_nonneg h3, Int.toNat_of_nonneg h4, Int.toNat_of_nonneg (by omega)]
section
variable (n : Nat) (l : List (Fin 3 → Int)) (x : Int) {I O N : Nat} (h1 : 1 ≤ N) (h2 : I + N ≤ 100) (h3 : O + N ≤ 100)
include h1 h2 h3
theorem b5 (A B : Fin 100 → Bool) : ∀ (f i : Nat), N - i < f → i ≤ N →
    (G_ringref5_BoxErr_L5 n l x (tri (S_box_Range.mk I O N)) A B f (i : Int) = some (.x0 5) ∧ ∃ j, i ≤ j ∧ j < N ∧ (at_ A (I + j) = true ∨ at_ B (O + j) = true)) ∨
    (G_ringref5_BoxErr_L5 n l x (tri (S_box_Range.mk I O N)) A B f (i : Int) = some .x1 ∧ ∀ j, i ≤ j → j < N → at_ A (I + j) = false ∧ at_ B (O + j) = false)
  | 0, i, h, _ => by omega
  | f + 1, i, h, hi => by
    rw [G_ringref5_BoxErr_L5, show tri (S_box_Range.mk I O N) 0 = (I : Int) from rfl, show tri (S_box_Range.mk I O N) 1 = (O : Int) from rfl, show tri (S_box_Range.mk I O N) 2 = (N : Int) from rfl]
    by_cases hlt : (i : Int) < (N : Int)
    · have w1 : wi .i64 ((I : Int) + i) = ((I + i : Nat) : Int) := by rw [wi64 (by omega) (by omega)]; simp
      have w2 : wi .i64 ((O : Int) + i) = ((O + i : Nat) : Int) := by rw [wi64 (by omega) (by omega)]; simp
      have hI : 0 ≤ ((I + i : Nat) : Int) ∧ ((I + i : Nat) : Int) < 100 := by omega
      have hO : 0 ≤ ((O + i : Nat) : Int) ∧ ((O + i : Nat) : Int) < 100 := by omega
      rw [if_pos hlt, w1, w2, if_pos hI, getA_at (j := I + i) (by omega), Option.bind_some, if_pos hO, getA_at (j := O + i) (by omega), Option.bind_some, wi_succ (by omega)]
      cases ha : at_ A (I + i) with
      | true => left; exact ⟨by simp, i, by omega, by omega, .inl ha⟩
      | false =>
        cases hb : at_ B (O + i) with
        | true => left; exact ⟨by simp, i, by omega, by omega, .inr hb⟩
        | false =>
          simp only [Bool.false_eq_true, if_false]
          rcases b5 A B f (i + 1) (by omega) (by omega) with ⟨p, j, q1, q2, q3⟩ | ⟨p, q⟩
          · exact .inl ⟨p, j, by omega, q2, q3⟩
          · right
            refine ⟨p, fun j hj hj2 => ?_⟩
            by_cases e : j = i
            · subst e; exact ⟨ha, hb⟩
            · exact q j (by omega) hj2
    · right
      rw [if_neg hlt]
      exact ⟨rfl, fun j _ _ => by omega⟩
theorem b6 : ∀ (f i : Nat) (A B : Fin 100 → Bool), N - i < f → i ≤ N → ∃ A' B', G_ringref5_BoxErr_L6 n l x (tri (S_box_Range.mk I O N)) f (i : Int) A B = some (.x0 A' B') ∧
    (∀ j, j < 100 → at_ A' j = (at_ A j || (decide (I + i ≤ j) && decide (j < I + N)))) ∧ (∀ j, j < 100 → at_ B' j = (at_ B j || (decide (O + i ≤ j) && decide (j < O + N))))
  | 0, i, _, _, h, _ => by omega
  | f + 1, i, A, B, h, hi => by
    rw [G_ringref5_BoxErr_L6, show tri (S_box_Range.mk I O N) 0 = (I : Int) from rfl, show tri (S_box_Range.mk I O N) 1 = (O : Int) from rfl, show tri (S_box_Range.mk I O N) 2 = (N : Int) from rfl]
    by_cases hlt : (i : Int) < (N : Int)
    · have w1 : wi .i64 ((I : Int) + i) = ((I + i : Nat) : Int) := by rw [wi64 (by omega) (by omega)]; simp
      have w2 : wi .i64 ((O : Int) + i) = ((O + i : Nat) : Int) := by rw [wi64 (by omega) (by omega)]; simp
      have hI : 0 ≤ ((I + i : Nat) : Int) ∧ ((I + i : Nat) : Int) < 100 := by omega
      have hO : 0 ≤ ((O + i : Nat) : Int) ∧ ((O + i : Nat) : Int) < 100 := by omega
      rw [if_pos hlt, w1, w2, if_pos hI, getA_at (j := I + i) (by omega), Option.bind_some, if_pos hO, getA_at (j := O + i) (by omega), Option.bind_some, wi_succ (by omega)]
      obtain ⟨A', B', p, q, r⟩ := b6 f (i + 1) (setA A ((I + i : Nat) : Int) true) (setA B ((O + i : Nat) : Int) true) (by omega) (by omega)
      refine ⟨A', B', p, fun j hj => ?_, fun j hj => ?_⟩
      · rw [q j hj, set_at hj, Bool.or_assoc]
        congr 1
        rw [Bool.eq_iff_iff]; simp; omega
      · rw [r j hj, set_at hj, Bool.or_assoc]
        congr 1
        rw [Bool.eq_iff_iff]; simp; omega
    · rw [if_neg hlt]
      refine ⟨A, B, rfl, fun j hj => ?_, fun j hj => ?_⟩
      · have : ¬ (I + i ≤ j ∧ j < I + N) := by omega
        cases at_ A j <;> simp; omega
      · have : ¬ (O + i ≤ j ∧ j < O + N) := by omega
        cases at_ B j <;> simp; omega
end
structure Good (l : List S_box_Range) : Prop where
  len : l.length ≤ 4
  box : ∀ z ∈ l, V z
theorem l37 (n : Nat) (l : List S_box_Range) (hl : l.length ≤ 4) (hn : 200 ≤ n) : ∀ (k i : Nat) (A B : Fin 100 → Bool), l.length - i < k → i ≤ l.length → (∀ z ∈ l.take i, V z) →
    (∀ j, j < 100 → (at_ A j = true ↔ ∃ z ∈ l.take i, z.fIn ≤ (j : Int) ∧ (j : Int) < z.fIn + z.fN)) → (∀ j, j < 100 → (at_ B j = true ↔ ∃ z ∈ l.take i, z.fOut ≤ (j : Int) ∧ (j : Int) < z.fOut + z.fN)) →
    (∃ e : Int, e ≠ 0 ∧ G_box_Check_L3 n l k (i : Int) = some (.x0 e) ∧ G_ringref5_BoxErr_L7 n (l.map tri) k (i : Int) A B = some (.x0 e)) ∨
    (G_box_Check_L3 n l k (i : Int) = some .x1 ∧ G_ringref5_BoxErr_L7 n (l.map tri) k (i : Int) A B = some .x1 ∧ ∀ z ∈ l, V z)
  | 0, i, _, _, h, _, _, _, _ => by omega
  | k + 1, i, A, B, h, hi, hv, hA, hB => by
    rw [G_box_Check_L3, G_ringref5_BoxErr_L7, List.length_map]
    by_cases hlt : (i : Int) < (l.length : Int)
    · obtain ⟨y, hy⟩ := get_lt hlt
      rw [if_pos hlt, if_pos hlt, getI_nat, map_get, hy]
      simp only [Option.map_some, Option.bind_some, cc1, cc4]
      cases hb : bad y with
      | true => left; exact ⟨1, by decide, by simp, by simp⟩
      | false =>
        have vy := V_of hb
        obtain ⟨I, O, N, rfl, h1, h2, h3⟩ := V_nat vy
        simp only [Bool.false_eq_true, if_false]
        have hs : sub l 0 (i : Int) = some (l.take i) := by
          unfold sub
          rw [if_pos (by omega)]; simp
        have hlen : (l.take i).length ≤ 4 := by rw [List.length_take]; omega
        have hc := chk2 n l (l.take i) (i : Int) _ vy hv (by omega) n 0 (by omega) (by omega)
        have hc : G_box_Check_L2 n l (i : Int) (l.take i) (S_box_Range.mk I O N) n 0 = if (l.take i).any (mts (S_box_Range.mk I O N)) = true then some (.x0 5) else some .x1 := hc
        rw [hs, Option.bind_some, hc]
        rcases b5 n (l.map tri) (i : Int) h1 h2 h3 A B n 0 (by omega) (by omega) with ⟨p, j, q1, q2, q3⟩ | ⟨p, q⟩
        · have p : G_ringref5_BoxErr_L5 n (l.map tri) (i : Int) (tri (S_box_Range.mk I O N)) A B n 0 = some (.x0 5) := p
          left
          refine ⟨5, by decide, ?_, by rw [p]; rfl⟩
          rw [if_pos]
          · rfl
          rw [List.any_eq_true]
          rcases q3 with q3 | q3
          · obtain ⟨z, hz, z1, z2⟩ := (hA _ (by omega)).1 q3
            refine ⟨z, hz, ?_⟩
            have : mt (I : Int) N z.fIn z.fN = true := by simp [mt]; omega
            simp [mts, this]
          · obtain ⟨z, hz, z1, z2⟩ := (hB _ (by omega)).1 q3
            refine ⟨z, hz, ?_⟩
            have : mt (O : Int) N z.fOut z.fN = true := by simp [mt]; omega
            simp [mts, this]
        · have p : G_ringref5_BoxErr_L5 n (l.map tri) (i : Int) (tri (S_box_Range.mk I O N)) A B n 0 = some .x1 := p
          have hno : ¬ (l.take i).any (mts (S_box_Range.mk I O N)) = true := by
            intro hany
            obtain ⟨z, hz, hm⟩ := List.any_eq_true.1 hany
            obtain ⟨I', O', N', rfl, g1, g2, g3⟩ := V_nat (hv z hz)
            simp only [mts, mt, Bool.or_eq_true, Bool.and_eq_true, decide_eq_true_eq] at hm
            rcases hm with ⟨m1, m2⟩ | ⟨m1, m2⟩
            · have := (q (I' - I) (by omega) (by omega)).1
              rw [Bool.eq_false_iff] at this
              exact this ((hA _ (by omega)).2 ⟨_, hz, by show (I' : Int) ≤ _; omega, by show _ < (I' : Int) + N'; omega⟩)
            · have := (q (O' - O) (by omega) (by omega)).2
              rw [Bool.eq_false_iff] at this
              exact this ((hB _ (by omega)).2 ⟨_, hz, by show (O' : Int) ≤ _; omega, by show _ < (O' : Int) + N'; omega⟩)
          obtain ⟨A', B', p2, qa, qb⟩ := b6 n (l.map tri) (i : Int) h1 h2 h3 n 0 A B (by omega) (by omega)
          have p2 : G_ringref5_BoxErr_L6 n (l.map tri) (i : Int) (tri (S_box_Range.mk I O N)) n 0 A B = some (.x0 A' B') := p2
          rw [if_neg hno, p, Option.bind_some]
          simp only [Option.bind_some, p2]
          rw [wi_succ (by omega)]
          have htk : l.take (i + 1) = l.take i ++ [S_box_Range.mk I O N] := by rw [List.take_add_one, hy]; rfl
          refine l37 n l hl hn k (i + 1) A' B' (by omega) (by omega) ?_ ?_ ?_
          · intro z hz
            rw [htk, List.mem_append, List.mem_singleton] at hz
            rcases hz with hz | rfl
            · exact hv z hz
            · exact vy
          · intro j hj
            rw [qa j hj, Bool.or_eq_true, hA j hj, htk]
            constructor
            · rintro (⟨z, hz, e⟩ | e)
              · exact ⟨z, List.mem_append_left _ hz, e⟩
              · simp at e
                exact ⟨_, List.mem_append_right _ (List.mem_singleton.2 rfl), by show (I : Int) ≤ _; omega, by show _ < (I : Int) + N; omega⟩
            · rintro ⟨z, hz, e1, e2⟩
              rw [List.mem_append, List.mem_singleton] at hz
              rcases hz with hz | rfl
              · exact .inl ⟨z, hz, e1, e2⟩
              · right; simp only at e1 e2; simp; omega
          · intro j hj
            rw [qb j hj, Bool.or_eq_true, hB j hj, htk]
            constructor
            · rintro (⟨z, hz, e⟩ | e)
              · exact ⟨z, List.mem_append_left _ hz, e⟩
              · simp at e
                exact ⟨_, List.mem_append_right _ (List.mem_singleton.2 rfl), by show (O : Int) ≤ _; omega, by show _ < (O : Int) + N; omega⟩
            · rintro ⟨z, hz, e1, e2⟩
              rw [List.mem_append, List.mem_singleton] at hz
              rcases hz with hz | rfl
              · exact .inl ⟨z, hz, e1, e2⟩
              · right; simp only at e1 e2; simp; omega
    · right
      rw [if_neg hlt, if_neg hlt]
      have : l.take i = l := List.take_of_length_le (by omega)
      rw [this] at hv
      exact ⟨rfl, rfl, hv⟩
def Z : Fin 100 → Bool := fun _ => false
theorem z_lit : (fun i : Fin 100 => [false, false, false, false, false, false, false, false, false, false, false, false, false, false, false, false, false, false, false, false, false, false, false, false, false, false, false, false, false, false, false, false, false, false, false, false, false, false, false, false, false, false, false, false, false, false, false, false, false, false, false, false, false, false, false, false, false, false, false, false, false, false, false, false, false, false, false, false, false, false, false, false, false, false, false, false, false, false, false, false, false, false, false, false, false, false, false, false, false, false, false, false, false, false, false, false, false, false, false, false].get i) = Z := by
  funext i
  revert i
  decide +kernel
theorem checks (n : Nat) (l : List S_box_Range) (hn : 200 ≤ n) : ∃ r : Int, G_box_Check n l = some r ∧ G_ringref5_BoxErr n (l.map tri) = some r ∧ (r = 0 → Good l) := by
  unfold G_box_Check G_ringref5_BoxErr
  rw [List.length_map, z_lit]
  by_cases h : (l.length : Int) > 4
  · rw [if_pos h, if_pos h]
    exact ⟨2, rfl, rfl, fun h => absurd h (by decide : ¬ (2 : Int) = 0)⟩
  · rw [if_neg h, if_neg h]
    have hz : ∀ j, j < 100 → at_ Z j = false := by intro j hj; unfold at_ Z; simp
    rcases l37 n l (by omega) hn n 0 Z Z (by omega) (by omega) (by simp) (fun j hj => by rw [hz j hj]; simp) (fun j hj => by rw [hz j hj]; simp) with ⟨e, he, h1, h2⟩ | ⟨h1, h2, h3⟩
    · have h1 : G_box_Check_L3 n l n 0 = some (.x0 e) := h1
      have h2 : G_ringref5_BoxErr_L7 n (l.map tri) n 0 Z Z = some (.x0 e) := h2
      rw [h1, h2]
      exact ⟨e, rfl, rfl, fun h => absurd h he⟩
    · have h1 : G_box_Check_L3 n l n 0 = some .x1 := h1
      have h2 : G_ringref5_BoxErr_L7 n (l.map tri) n 0 Z Z = some .x1 := h2
      rw [h1, h2]
      exact ⟨0, rfl, rfl, fun _ => ⟨by omega, h3⟩⟩
theorem boxes_true (m : Nat) : G_ringlaw5_boxes (m + 200) = some true := by kernel_rfl
theorem eqS_refl (x : S_box_Range) : eqS_box_Range x x = true := by
  unfold eqS_box_Range
  simp
theorem equal_loop (n : Nat) (l : List S_box_Range) (hl : l.length < 1000000) : ∀ (k i : Nat), l.length - i < k → i ≤ l.length → G_slices_Equal_box_Range_box_Range_L1 n l l k (i : Int) = some .x1
  | 0, i, h, _ => by omega
  | k + 1, i, h, hi => by
    rw [G_slices_Equal_box_Range_box_Range_L1]
    by_cases hlt : (i : Int) < (l.length : Int)
    · obtain ⟨x, hx⟩ := get_lt hlt
      rw [if_pos hlt, getI_nat, hx, Option.bind_some, Option.bind_some, eqS_refl, if_neg (by decide), wi_succ (by omega)]
      exact equal_loop n l hl k (i + 1) (by omega) (by omega)
    · rw [if_neg hlt]
theorem equal_self (n : Nat) (l : List S_box_Range) (hl : l.length < 1000000) (hn : l.length < n) : G_slices_Equal_box_Range_box_Range n l l = some true := by
  unfold G_slices_Equal_box_Range_box_Range
  have := equal_loop n l hl n 0 (by omega) (by omega)
  have : G_slices_Equal_box_Range_box_Range_L1 n l l n 0 = some .x1 := this
  rw [if_pos rfl, this]; rfl
theorem trip (n : Nat) (l : List S_box_Range) (hb : l.length * 24 ≤ 140737488351232) (hn : l.length < n) : G_ringlaw5_triples n l = some (l.map tri) := by
  have loop : ∀ (f i : Nat) (w : List (Fin 3 → Int)), l.length - i < f → i ≤ l.length → w = (l.take i).map tri → G_ringlaw5_triples_L1 n l f (i : Int) w = some (.x0 (l.map tri)) := by
    intro f
    induction f with
    | zero => intro i w h _ _; omega
    | succ f ih =>
      intro i w h hi hw
      rw [G_ringlaw5_triples_L1]
      by_cases hlt : (i : Int) < (l.length : Int)
      · obtain ⟨x, hx⟩ := get_lt hlt
        have hwl : w.length = i := by rw [hw]; simp; omega
        rw [if_pos hlt, getI_nat, hx, Option.bind_some, show (fun i : Fin 3 => [x.fIn, x.fOut, x.fN].get i) = tri x from rfl, app_bytes (by rw [hwl]; simp; omega), Option.bind_some, wi_succ (by omega)]
        exact ih (i + 1) _ (by omega) (by omega) (by rw [List.take_add_one, hx, hw]; simp)
      · rw [if_neg hlt]
        have : l.take i = l := List.take_of_length_le (by omega)
        rw [hw, this]
  unfold G_ringlaw5_triples
  have h := loop n 0 [] (by omega) (by omega) (by simp)
  have h : G_ringlaw5_triples_L1 n l n 0 [] = some (.x0 (l.map tri)) := h
  rw [h]; rfl
end Go.Proofs.Ytiajagahghgclaa.boxNests
