/- SigSays: what each function returns. -/
import Derived.Test.YtjjjaakefnnbpaaLSig
namespace Go.Proofs.Ytjjjaakefnnbpaa.pv
set_option linter.all false
open Go.RowKit help

theorem getH {H : Fin 16 → Int} {j : Nat} (h : j < 16) : getA H (j : Int) = some (H ⟨j, h⟩) := by
  unfold getA
  rw [dif_pos ⟨by omega, by omega⟩]
  rfl
theorem eqS_refl (x : S_sig_Set) : eqS_sig_Set x x = true := by unfold eqS_sig_Set; simp
theorem eqH_refl (x : Fin 16 → Int) : eqA_16_int x x = true := by unfold eqA_16_int; simp
def badH (H : Fin 16 → Int) (j : Nat) : Prop := (∃ h : j < 16, H ⟨j, h⟩ < 0) ∨ (j = 0 ∧ H 0 ≠ 0)
theorem chk_loop (n : Nat) (s : S_sig_Set) : ∀ (k i : Nat), 16 - i < k → i ≤ 16 →
    ((∃ j, i ≤ j ∧ badH s.fHow j) → G_sig_Check_L3 n s k (i : Int) = some (.x0 1)) ∧ ((¬ ∃ j, i ≤ j ∧ badH s.fHow j) → G_sig_Check_L3 n s k (i : Int) = some .x1)
  | 0, i, h, _ => by omega
  | k + 1, i, h, hi => by
    rw [G_sig_Check_L3]
    by_cases h1 : i < 16
    · rw [if_pos (by omega), getH h1, Option.bind_some]
      obtain ⟨ih1, ih2⟩ := chk_loop n s k (i + 1) (by omega) (by omega)
      have c2 : G_sig_Check_C2 n (i : Int) (s.fHow ⟨i, h1⟩) s = some (.x0 (decide (s.fHow ⟨i, h1⟩ < 0) || (decide (i = 0) && (s.fHow ⟨i, h1⟩ != 0)))) := by
        unfold G_sig_Check_C2
        by_cases a : s.fHow ⟨i, h1⟩ < 0
        · rw [if_pos a]; simp [a]
        · rw [if_neg a]
          by_cases b : i = 0
          · rw [if_pos (by omega), decide_eq_false a, decide_eq_true b]; rfl
          · rw [if_neg (by omega), decide_eq_false a, decide_eq_false b]; rfl
      rw [c2, Option.bind_some, wi_succ (by omega)]
      simp only []
      have hb : (decide (s.fHow ⟨i, h1⟩ < 0) || (decide (i = 0) && (s.fHow ⟨i, h1⟩ != 0))) = true ↔ badH s.fHow i := by
        unfold badH
        constructor
        · intro q
          simp only [Bool.or_eq_true, Bool.and_eq_true, decide_eq_true_eq, bne_iff_ne] at q
          rcases q with q | ⟨q1, q2⟩
          · exact .inl ⟨h1, q⟩
          · subst q1; exact .inr ⟨rfl, q2⟩
        · rintro (⟨_, q⟩ | ⟨q1, q2⟩)
          · simp [q]
          · subst q1
            have : s.fHow ⟨0, h1⟩ ≠ 0 := q2
            rw [Bool.or_eq_true, Bool.and_eq_true]
            exact .inr ⟨rfl, by rw [bne_iff_ne]; exact this⟩
      by_cases hq : badH s.fHow i
      · rw [if_pos (hb.2 hq)]
        exact ⟨fun _ => rfl, fun q => absurd ⟨i, Nat.le_refl _, hq⟩ q⟩
      · rw [if_neg (fun q => hq (hb.1 q))]
        refine ⟨fun ⟨j, q1, q2⟩ => ih1 ⟨j, ?_, q2⟩, fun q => ih2 (fun ⟨j, q1, q2⟩ => q ⟨j, by omega, q2⟩)⟩
        rcases Nat.lt_or_ge i j with q3 | q3
        · exact q3
        · have : j = i := by omega
          subst this; exact absurd q2 hq
    · rw [if_neg (by omega)]
      refine ⟨fun ⟨j, q1, q2⟩ => ?_, fun _ => rfl⟩
      rcases q2 with ⟨q, _⟩ | ⟨q, _⟩ <;> omega
theorem min_loop (n : Nat) (xs : List Int) (hl : xs.length < 1000000) : ∀ (k i : Nat) (m : Int), xs.length - i < k → i ≤ xs.length →
    ∃ r, G_slices_Min_int_int_L1 n xs k m (i : Int) = some (.x0 r) ∧ (r < 0 ↔ m < 0 ∨ ∃ y ∈ xs.drop i, y < 0)
  | 0, i, m, h, _ => by omega
  | k + 1, i, m, h, hi => by
    rw [G_slices_Min_int_int_L1]
    by_cases h1 : (i : Int) < (xs.length : Int)
    · obtain ⟨y, hy⟩ := get_lt h1
      rw [if_pos h1, getI_nat, hy, Option.bind_some, wi_succ (by omega), drop_cons hy]
      obtain ⟨r, r1, r2⟩ := min_loop n xs hl k (i + 1) (minI m y) (by omega) (by omega)
      refine ⟨r, r1, r2.trans ?_⟩
      have hm : minI m y < 0 ↔ m < 0 ∨ y < 0 := by
        unfold minI
        split <;> omega
      rw [hm]
      simp [or_assoc]
    · rw [if_neg h1, drop_end h1]
      exact ⟨m, rfl, by simp⟩
theorem min_any (n : Nat) (H : Fin 16 → Int) (hn : 20 < n) : ∃ r, G_slices_Min_int_int n [(H 0), (H 1), (H 2), (H 3), (H 4), (H 5), (H 6), (H 7), (H 8), (H 9), (H 10), (H 11), (H 12), (H 13), (H 14), (H 15)] = some r ∧ (r < 0 ↔ ∃ j, H j < 0) := by
  have e : [(H 0), (H 1), (H 2), (H 3), (H 4), (H 5), (H 6), (H 7), (H 8), (H 9), (H 10), (H 11), (H 12), (H 13), (H 14), (H 15)] = List.ofFn H := by simp [List.ofFn_succ]
  rw [e]
  unfold G_slices_Min_int_int
  have hlen : (List.ofFn H).length = 16 := by simp
  have h0 : getI (List.ofFn H) 0 = some (H 0) := by
    have := getI_nat (List.ofFn H) 0
    rw [show ((0 : Nat) : Int) = 0 from rfl] at this
    rw [this]; simp
  rw [if_neg (by omega), h0, Option.bind_some]
  obtain ⟨r, r1, r2⟩ := min_loop n (List.ofFn H) (by omega) n 1 (H 0) (by omega) (by omega)
  have r1 : G_slices_Min_int_int_L1 n (List.ofFn H) n (H 0) 1 = _ := r1
  rw [r1, Option.bind_some]
  refine ⟨r, rfl, r2.trans ?_⟩
  have hd : List.ofFn H = H 0 :: (List.ofFn H).drop 1 := by
    rw [List.ofFn_succ]; rfl
  have hm : (∃ j, H j < 0) ↔ ∃ y ∈ List.ofFn H, y < 0 := by
    constructor
    · rintro ⟨j, hj⟩; exact ⟨H j, by rw [List.mem_ofFn]; exact ⟨j, rfl⟩, hj⟩
    · rintro ⟨y, hy, hy0⟩
      rw [List.mem_ofFn] at hy
      obtain ⟨j, rfl⟩ := hy
      exact ⟨j, hy0⟩
  rw [hm]
  conv => rhs; rw [hd]
  simp
/-- signals that are right -/
structure Good (P M : Nat) (H : Fin 16 → Int) : Prop where
  p : P < 65536
  p2 : P % 2 = 0
  m : M < 65536
  m2 : M % 2 = 0
  m9 : M.testBit 9 = false
  h : ∀ j, 0 ≤ H j
  h0 : H 0 = 0
  h9 : H 9 = 0
theorem check_any (n : Nat) (s : S_sig_Set) (hp1 : -9223372036854775808 ≤ s.fPending) (hp2 : s.fPending ≤ 9223372036854775807) (hm1 : -9223372036854775808 ≤ s.fMask) (hm2 : s.fMask ≤ 9223372036854775807) (hn : 40 < n) :
    ∃ e : Int, G_sig_Check n s = some e ∧ G_ringref5_SignalErr n s.fPending s.fMask s.fHow = some e ∧ (e = 0 → ∃ P M : Nat, s = ⟨(P : Int), (M : Int), s.fHow⟩ ∧ Good P M s.fHow) := by
  obtain ⟨p, m, H⟩ := s
  simp only at hp1 hp2 hm1 hm2 ⊢
  have k1 := okbits p hp1 hp2
  have k2 := okbits m hm1 hm2
  unfold G_sig_Check G_ringref5_SignalErr
  by_cases hb : (0 ≤ p ∧ p ≤ 65535 ∧ p % 2 = 0) ∧ (0 ≤ m ∧ m ≤ 65535 ∧ m % 2 = 0)
  · have c1 : G_sig_Check_C1 n ⟨p, m, H⟩ = some (.x0 false) := by
      unfold G_sig_Check_C1
      simp only
      rw [if_pos (k1.2 hb.1), k2.2 hb.2]; rfl
    have c2 : G_ringref5_SignalErr_C1 n p m H = some (.x0 false) := by
      unfold G_ringref5_SignalErr_C1
      rw [if_neg (by omega), if_neg (by omega), rem_nn (by omega), if_neg (by omega), if_neg (by omega), if_neg (by omega), rem_nn (by omega)]
      have : m % 2 = 0 := hb.2.2.2
      rw [this]; rfl
    rw [c1, c2, Option.bind_some, Option.bind_some]
    simp only [Bool.false_eq_true, if_false]
    obtain ⟨l1, l2⟩ := chk_loop n ⟨p, m, H⟩ n 0 (by omega) (by omega)
    rw [show ((0 : Nat) : Int) = 0 from rfl] at l1 l2
    obtain ⟨r, r1, r2⟩ := min_any n H (by omega)
    rw [r1, Option.bind_some]
    have hbad : (∃ j, 0 ≤ j ∧ badH H j) ↔ ((∃ j, H j < 0) ∨ H 0 ≠ 0) := by
      constructor
      · rintro ⟨j, _, (⟨a, b⟩ | ⟨a, b⟩)⟩
        · exact .inl ⟨⟨j, a⟩, b⟩
        · exact .inr b
      · rintro (⟨j, a⟩ | a)
        · exact ⟨j.1, Nat.zero_le _, .inl ⟨j.2, a⟩⟩
        · exact ⟨0, Nat.zero_le _, .inr ⟨rfl, a⟩⟩
    by_cases hx : (∃ j, H j < 0) ∨ H 0 ≠ 0
    · rw [l1 (hbad.2 hx), Option.bind_some]
      refine ⟨1, rfl, ?_, fun q => absurd q (by decide)⟩
      by_cases hneg : r < 0
      · rw [if_pos hneg]
      · have : H 0 ≠ 0 := hx.resolve_left (fun q => hneg (r2.2 q))
        rw [if_neg hneg, if_neg this]
    · have hneg : ¬ r < 0 := fun q => hx (.inl (r2.1 q))
      have h00 : H 0 = 0 := Classical.byContradiction fun q => hx (.inr q)
      rw [l2 (fun q => hx (hbad.1 q)), Option.bind_some, if_neg hneg, if_pos h00]
      simp only
      obtain ⟨P, rfl⟩ := Int.eq_ofNat_of_zero_le hb.1.1
      obtain ⟨M, rfl⟩ := Int.eq_ofNat_of_zero_le hb.2.1
      have b9 := bit_any M 9 (by omega) (by omega)
      rw [show ((9 : Nat) : Int) = 9 from rfl] at b9
      have r9 : remI (shrI .i64 (M : Int) 9) 2 = if M.testBit 9 then 1 else 0 := by
        have e := shr_i64 (a := (M : Int)) 9 (by omega)
        rw [show ((9 : Nat) : Int) = 9 from rfl] at e
        rw [e, rem_nn (by omega), Nat.testBit_eq_decide_div_mod_eq]
        have e2 : ((M : Int) / 2 ^ 9) = ((M / 2 ^ 9 : Nat) : Int) := by simp
        rw [e2]
        by_cases q : M / 2 ^ 9 % 2 = 1
        · simp only [q, decide_true, if_true]; omega
        · simp only [q, decide_false, Bool.false_eq_true, if_false]; omega
      rw [b9, r9]
      by_cases q9 : M.testBit 9
      · exact ⟨3, by simp [q9], by simp [q9], fun q => absurd q (by decide)⟩
      · simp only [q9, Bool.false_eq_true, if_false]
        rw [if_neg (show ¬ ((0 : Int) = 1) by decide)]
        by_cases h9 : H 9 = 0
        · rw [if_pos h9]
          refine ⟨0, rfl, rfl, fun _ => ⟨P, M, rfl, ⟨by omega, by omega, by omega, by omega, by simpa using q9, fun j => ?_, h00, h9⟩⟩⟩
          have : ¬ H j < 0 := fun q => hx (.inl ⟨j, q⟩)
          omega
        · rw [if_neg h9]
          exact ⟨3, rfl, rfl, fun q => absurd q (by decide)⟩
  · have c1 : G_sig_Check_C1 n ⟨p, m, H⟩ = some (.x0 true) := by
      unfold G_sig_Check_C1
      simp only
      by_cases q : bits .andNot .i64 p 65534 = 0
      · have : ¬ bits .andNot .i64 m 65534 = 0 := fun q2 => hb ⟨k1.1 q, k2.1 q2⟩
        rw [if_pos q]
        simp [this]
      · rw [if_neg q]
    have c2 : G_ringref5_SignalErr_C1 n p m H = some (.x0 true) := by
      unfold G_ringref5_SignalErr_C1
      by_cases q1 : p < 0
      · rw [if_pos q1]
      by_cases q2 : p > 65535
      · rw [if_neg q1, if_pos q2]
      by_cases q3 : p % 2 = 1
      · rw [if_neg q1, if_neg q2, rem_nn (by omega), if_pos q3]
      by_cases q4 : m < 0
      · rw [if_neg q1, if_neg q2, rem_nn (by omega), if_neg q3, if_pos q4]
      by_cases q5 : m > 65535
      · rw [if_neg q1, if_neg q2, rem_nn (by omega), if_neg q3, if_neg q4, if_pos q5]
      by_cases q6 : m % 2 = 1
      · rw [if_neg q1, if_neg q2, rem_nn (by omega), if_neg q3, if_neg q4, if_neg q5, rem_nn (by omega), q6]; rfl
      exact absurd (by omega) hb
    rw [c1, c2, Option.bind_some, Option.bind_some]
    exact ⟨1, rfl, rfl, fun q => absurd q (by decide)⟩
/-- the two answer alike for lists -/
theorem same_ok (n : Nat) (p m : Int) (H : Fin 16 → Int) (W B : List Nat) (hn : 40 < n) (lw : W.length ≤ 20) (lb : B.length ≤ 20) (bw : ∀ k ∈ W, k < 16) (bb : ∀ k ∈ B, k < 16) (hp : p = ((bs W : Nat) : Int)) (hm : m = ((bs B : Nat) : Int)) :
    G_ringlaw5_same n ⟨p, m, H⟩ ⟨ints W, ints B, H⟩ = some true := by
  unfold G_ringlaw5_same G_ringlaw5_same_C1
  simp only
  rw [bitsOf_any n W lw bw (by omega), Option.bind_some, if_pos hp, bitsOf_any n B lb bb (by omega), Option.bind_some, if_pos hm, eqH_refl]
  rfl
theorem nums_lt {X : Nat} : ∀ k ∈ nums X, k < 16 := fun k hk => (nums_mem.1 hk).2.1
theorem numsL (X : Nat) : (nums X).length ≤ 20 := Nat.le_trans (nums_len X) (by omega)
/-- what comes next -/
def nq (P M k : Nat) : Bool := P.testBit k && !M.testBit k
def nx (P M : Nat) : Nat := if P.testBit 9 then 9 else ((List.range' 1 15).find? (nq P M)).getD 0
theorem nx_spec (P M : Nat) : nx P M < 16 ∧ (nx P M ≠ 0 → 1 ≤ nx P M ∧ P.testBit (nx P M) = true) := by
  unfold nx
  by_cases h : P.testBit 9
  · rw [if_pos h]; exact ⟨by omega, fun _ => ⟨by omega, h⟩⟩
  · rw [if_neg h]
    cases hf : (List.range' 1 15).find? (nq P M) with
    | none => simp
    | some k =>
      have h1 := List.find?_some hf
      have h2 := List.mem_of_find?_eq_some hf
      rw [List.mem_range'_1] at h2
      simp only [nq, Bool.and_eq_true] at h1
      simp only [Option.getD_some]
      exact ⟨by omega, fun _ => ⟨h2.1, h1.1⟩⟩
theorem range_cons {i : Nat} (h : i < 16) : List.range' i (16 - i) = i :: List.range' (i + 1) (16 - (i + 1)) := by
  rw [show 16 - i = (16 - (i + 1)) + 1 by omega, List.range'_succ]
theorem next_loop (n P M : Nat) (H : Fin 16 → Int) (hP : P < 65536) (hM : M < 65536) : ∀ (k i : Nat), 16 - i < k → i ≤ 16 →
    G_sig_Next_L1 n ⟨(P : Int), (M : Int), H⟩ k (i : Int) = some (match (List.range' i (16 - i)).find? (nq P M) with | some j => .x0 (j : Int) 0 | none => .x1)
  | 0, i, h, _ => by omega
  | k + 1, i, h, hi => by
    rw [G_sig_Next_L1]
    simp only
    by_cases h1 : i < 16
    · have hle : P &&& (18446744073709551615 - M) < 65536 := Nat.lt_of_le_of_lt Nat.and_le_left hP
      rw [if_pos (by omega), if_pos (by omega), i64_andNot_nat P M (by omega) (by omega), bit_any _ i hle (by omega), tb_andNot P M i hP (by omega), range_cons h1, List.find?_cons]
      by_cases hq : nq P M i = true
      · have hq' : (P.testBit i && !M.testBit i) = true := hq
        rw [hq, hq', if_pos (by rfl)]
      · have hq' : (P.testBit i && !M.testBit i) = false := by simpa [nq] using hq
        have hq2 : nq P M i = false := by simpa using hq
        rw [hq2, hq', if_neg (by simp), wi_succ (by omega)]
        exact next_loop n P M H hP hM k (i + 1) (by omega) (by omega)
    · have : 16 - i = 0 := by omega
      rw [if_neg (by omega), this]
      rfl
theorem next_good (n P M : Nat) (H : Fin 16 → Int) (hc : G_sig_Check n ⟨(P : Int), (M : Int), H⟩ = some 0) (g : Good P M H) (hn : 40 < n) :
    G_sig_Next n ⟨(P : Int), (M : Int), H⟩ = some (((nx P M : Nat) : Int), if nx P M = 0 then 4 else 0) := by
  unfold G_sig_Next
  have b9 := bit_any P 9 g.p (by omega)
  rw [show ((9 : Nat) : Int) = 9 from rfl] at b9
  rw [hc, Option.bind_some, if_pos rfl]
  simp only
  rw [b9]
  by_cases h : P.testBit 9
  · have e : nx P M = 9 := if_pos h
    rw [if_pos (by simp [h]), e]; rfl
  · have e : nx P M = ((List.range' 1 15).find? (nq P M)).getD 0 := if_neg h
    have hl := next_loop n P M H g.p g.m n 1 (by omega) (by omega)
    have hl : G_sig_Next_L1 n ⟨(P : Int), (M : Int), H⟩ n 1 = some (match (List.range' 1 15).find? (nq P M) with | some j => .x0 (j : Int) 0 | none => .x1) := hl
    rw [if_neg (by simp [h]), hl, Option.bind_some]
    have sp := nx_spec P M
    cases hf : (List.range' 1 15).find? (nq P M) with
    | none => rw [hf] at e; rw [e]; rfl
    | some j =>
      rw [hf] at e
      have h2 := List.mem_of_find?_eq_some hf
      rw [List.mem_range'_1] at h2
      rw [e]
      simp only [Option.getD_some]
      rw [if_neg (by omega)]
theorem contains_int (n : Nat) (L : List Nat) (k : Nat) (hl : L.length ≤ 20) (hn : 40 < n) : G_slices_Contains_int_int n (ints L) (k : Int) = some (decide (k ∈ L)) := by
  obtain ⟨r, h1, h2⟩ := G_slices_Contains_int_int_sp (n := n) (l := ints L) (k : Int) (by rw [ints_len]; omega) (by rw [ints_len]; omega)
  rw [h1]
  rw [ints_mem] at h2
  congr 1
  by_cases h : k ∈ L
  · simp [h, h2.2 h]
  · cases r with
    | true => exact absurd (h2.1 rfl) h
    | false => simp [h]
theorem ready_loop (n : Nat) (L B : List Nat) (H : Fin 16 → Int) (hl : L.length ≤ 20) (hb : B.length ≤ 20) (hn : 40 < n) : ∀ (k i : Nat), L.length - i < k → i ≤ L.length →
    G_ringref5_Signals_Ready_L1 n ⟨ints L, ints B, H⟩ k (i : Int) = some (match (L.drop i).find? (fun k => !decide (k ∈ B)) with | some j => .x0 (j : Int) | none => .x1)
  | 0, i, h, _ => by omega
  | k + 1, i, h, hi => by
    rw [G_ringref5_Signals_Ready_L1]
    simp only
    by_cases h1 : i < L.length
    · rw [if_pos (by rw [ints_len]; omega), getI_nat, ints_get, List.getElem?_eq_getElem h1, Option.map_some, Option.bind_some, contains_int n B L[i] hb hn, Option.bind_some, List.drop_eq_getElem_cons h1, List.find?_cons]
      by_cases hq : L[i] ∈ B
      · rw [if_pos (by simp [hq]), wi_succ (by omega)]
        simp only [hq, decide_true, Bool.not_true]
        exact ready_loop n L B H hl hb hn k (i + 1) (by omega) (by omega)
      · rw [if_neg (by simp [hq])]
        simp only [hq, decide_false, Bool.not_false]
    · rw [if_neg (by rw [ints_len]; omega), List.drop_eq_nil_of_le (by omega)]
      rfl
theorem find_congr {α : Type} {p q : α → Bool} : ∀ (l : List α) (_ : ∀ x ∈ l, p x = q x), l.find? p = l.find? q
  | [], _ => rfl
  | x :: l, h => by
    rw [List.find?_cons, List.find?_cons, h x (List.mem_cons_self ..), find_congr l (fun y hy => h y (List.mem_cons_of_mem _ hy))]
theorem ready_good (n P M : Nat) (H : Fin 16 → Int) (hn : 40 < n) : G_ringref5_Signals_Ready n ⟨ints (nums P), ints (nums M), H⟩ = some ((nx P M : Nat) : Int) := by
  unfold G_ringref5_Signals_Ready
  simp only
  have c9 := contains_int n (nums P) 9 (numsL P) hn
  rw [show ((9 : Nat) : Int) = 9 from rfl] at c9
  rw [c9, Option.bind_some]
  by_cases h : P.testBit 9
  · have e : nx P M = 9 := if_pos h
    have : 9 ∈ nums P := nums_mem.2 ⟨by omega, by omega, h⟩
    rw [if_pos (by simp [this]), e]; rfl
  · have e : nx P M = ((List.range' 1 15).find? (nq P M)).getD 0 := if_neg h
    have : ¬ 9 ∈ nums P := fun q => h (nums_mem.1 q).2.2
    have hl := ready_loop n (nums P) (nums M) H (numsL P) (numsL M) hn n 0 (by have := numsL P; omega) (by omega)
    have hl : G_ringref5_Signals_Ready_L1 n ⟨ints (nums P), ints (nums M), H⟩ n 0 = some (match (nums P).find? (fun k => !decide (k ∈ nums M)) with | some j => .x0 (j : Int) | none => .x1) := hl
    have hf : (nums P).find? (fun k => !decide (k ∈ nums M)) = (List.range' 1 15).find? (nq P M) := by
      unfold nums
      rw [List.find?_filter]
      refine find_congr _ (fun k hk => ?_)
      rw [List.mem_range'_1] at hk
      have : (k ∈ List.filter (fun k => M.testBit k) (List.range' 1 15)) ↔ M.testBit k = true := by
        have := nums_mem (X := M) (k := k)
        unfold nums at this
        rw [this]
        exact ⟨fun q => q.2.2, fun q => ⟨hk.1, by omega, q⟩⟩
      simp only [this, nq]
      cases P.testBit k <;> cases M.testBit k <;> simp
    rw [if_neg (by simp [this]), hl, Option.bind_some, hf, e]
    cases (List.range' 1 15).find? (nq P M) with
    | none => rfl
    | some j => rfl
end Go.Proofs.Ytjjjaakefnnbpaa.pv
