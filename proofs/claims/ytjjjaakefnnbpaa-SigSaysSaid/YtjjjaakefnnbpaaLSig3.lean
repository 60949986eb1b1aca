/- SigSays: what each function returns, with signals that are right. -/
import Derived.Test.YtjjjaakefnnbpaaLSig2
namespace Go.Proofs.Ytjjjaakefnnbpaa.pv
set_option linter.all false
open Go.RowKit help

def clr (P m : Nat) : Nat := P &&& (18446744073709551615 - 2 ^ m)
theorem pw {m : Nat} (h : m < 16) : 2 ^ m < 65536 := by
  have : (2 : Nat) ^ m ≤ 2 ^ 15 := Nat.pow_le_pow_right (by omega) (by omega)
  omega
theorem clr_lt {P m : Nat} (h : P < 65536) : clr P m < 65536 := Nat.lt_of_le_of_lt Nat.and_le_left h
theorem clr_bit {P m : Nat} (h : P < 65536) (hm : m < 16) (k : Nat) : (clr P m).testBit k = (P.testBit k && !decide (k = m)) := by
  have := pw hm
  unfold clr
  rw [tb_andNot P (2 ^ m) k h (by omega), Nat.testBit_two_pow]
  congr 2
  by_cases q : m = k
  · simp [q]
  · simp [q, Ne.symm q]
theorem clr_even {P m : Nat} (h : P < 65536) (hm : m < 16) (h2 : P % 2 = 0) : clr P m % 2 = 0 := by
  have := clr_bit h hm 0
  rw [Nat.testBit_zero, Nat.testBit_zero] at this
  simp [h2] at this
  omega
theorem nums_clr {P m : Nat} (h : P < 65536) (hm : m < 16) : nums (clr P m) = (nums P).filter (fun k => !decide (k = m)) := by
  unfold nums
  rw [List.filter_filter]
  refine List.filter_congr (fun k _ => ?_)
  rw [clr_bit h hm, Bool.and_comm]
theorem ints_filter (L : List Nat) (m : Nat) : (ints L).filter (fun y => !(y == (m : Int))) = ints (L.filter (fun k => !decide (k = m))) := by
  unfold ints
  rw [List.filter_map]
  congr 1
  refine List.filter_congr (fun k _ => ?_)
  simp only [Function.comp]
  by_cases h : k = m
  · simp [h]
  · have : ¬ (k : Int) = (m : Int) := by omega
    simp [h, this]
theorem without_good (n P : Nat) (B : List Int) (H : Fin 16 → Int) (m : Nat) (hP : P < 65536) (hm : m < 16) (hn : 40 < n) :
    G_ringref5_Signals_Without n ⟨ints (nums P), B, H⟩ (m : Int) = some ⟨ints (nums (clr P m)), B, H⟩ := by
  unfold G_ringref5_Signals_Without G_slices_Clone_int_int
  have hl := numsL P
  simp only
  rw [app_arg (by rw [ints_len]; omega) (by omega), Option.bind_some, delf_any n (fun y0 => G_ringref5_Signals_Without_1 n y0 (m : Int)) (fun y => y == (m : Int)) _ (fun y _ => rfl) (by rw [ints_len]; omega) (by rw [ints_len]; omega), Option.bind_some, ints_filter, nums_clr hP hm]
theorem andNot_clr (P m : Nat) (hP : P < 65536) (hm : m < 16) : bits .andNot .i64 (P : Int) (shlI .i64 1 (m : Int)) = ((clr P m : Nat) : Int) := by
  have := pw hm
  rw [shl1 m (by omega), i64_andNot_nat _ _ (by omega) (by omega)]
  rfl
theorem same_clr (n P M : Nat) (H : Fin 16 → Int) (g : Good P M H) (m : Nat) (hm : m < 16) (hn : 40 < n) (H' : Fin 16 → Int) :
    G_ringlaw5_same n ⟨((clr P m : Nat) : Int), (M : Int), H'⟩ ⟨ints (nums (clr P m)), ints (nums M), H'⟩ = some true :=
  same_ok n _ _ H' _ _ hn (numsL _) (numsL _) nums_lt nums_lt (by rw [bs_nums (clr_even g.p hm g.p2) (clr_lt g.p)]) (by rw [bs_nums g.m2 g.m])
theorem take_good (n P M : Nat) (H : Fin 16 → Int) (hc : G_sig_Check n ⟨(P : Int), (M : Int), H⟩ = some 0) (g : Good P M H) (hn : 40 < n) (h : nx P M ≠ 0) :
    G_sig_Take n ⟨(P : Int), (M : Int), H⟩ = some (⟨((clr P (nx P M) : Nat) : Int), (M : Int), H⟩, ((nx P M : Nat) : Int), H ⟨nx P M, (nx_spec P M).1⟩, 0) := by
  unfold G_sig_Take
  have hx := (nx_spec P M).1
  rw [next_good n P M H hc g hn, Option.bind_some]
  simp only
  rw [if_neg h, if_pos (show (0 : Int) = 0 from rfl), if_pos (by omega), if_pos ⟨by omega, by omega⟩, getH hx, Option.bind_some, andNot_clr P _ g.p hx]
theorem take_none (n P M : Nat) (H : Fin 16 → Int) (hc : G_sig_Check n ⟨(P : Int), (M : Int), H⟩ = some 0) (g : Good P M H) (hn : 40 < n) (h : nx P M = 0) :
    G_sig_Take n ⟨(P : Int), (M : Int), H⟩ = some (S_sig_Set.mk 0 0 (fun (_ : Fin 16) => 0), 0, 0, 4) := by
  unfold G_sig_Take
  rw [next_good n P M H hc g hn, Option.bind_some]
  simp only
  rw [if_pos h, if_neg (by decide)]
theorem number_yes (n m : Nat) (h1 : 1 ≤ m) (h2 : m ≤ 15) : G_sig_number n (m : Int) = some true := by
  unfold G_sig_number
  rw [if_pos (by omega), decide_eq_true (by omega)]
theorem number_no (n : Nat) (x : Int) (h : x < 1 ∨ x > 15) : G_sig_number n x = some false := by
  unfold G_sig_number
  by_cases h1 : x ≥ 1
  · rw [if_pos h1, decide_eq_false (by omega)]
  · rw [if_neg h1]
theorem lessI (n : Nat) (x y : Int) : G_cmp_Less_int n x y = some (Go.Sort.ltInt x y) := by
  unfold G_cmp_Less_int G_cmp_Less_int_C1 G_cmp_isNaN_int Go.Sort.ltInt
  simp
theorem perm_ints {r : List Int} {K : List Nat} (h : r.Perm (ints K)) : ∃ L : List Nat, r = ints L ∧ L.Perm K := by
  have hm : ∀ x ∈ r, ((x.toNat : Nat) : Int) = x := by
    intro x hx
    have := h.mem_iff.1 hx
    unfold ints at this
    rw [List.mem_map] at this
    obtain ⟨k, _, rfl⟩ := this
    simp
  have e : ∀ (l : List Int), (∀ x ∈ l, ((x.toNat : Nat) : Int) = x) → l = ints (l.map Int.toNat) := by
    intro l hl
    induction l with
    | nil => rfl
    | cons a l ih =>
      have := ih (fun x hx => hl x (List.mem_cons_of_mem _ hx))
      show a :: l = ((a.toNat : Nat) : Int) :: ints (l.map Int.toNat)
      rw [hl a (List.mem_cons_self ..), ← this]
  refine ⟨r.map Int.toNat, e r hm, ?_⟩
  have := h.map Int.toNat
  have e2 : (ints K).map Int.toNat = K := by
    unfold ints
    rw [List.map_map]
    conv => rhs; rw [← List.map_id K]
    refine List.map_congr_left (fun k _ => ?_)
    simp
  rwa [e2] at this
theorem setb_yes {P m : Nat} (h : P.testBit m = true) : P ||| 2 ^ m = P := by
  refine Nat.eq_of_testBit_eq (fun i => ?_)
  rw [Nat.testBit_or, Nat.testBit_two_pow]
  by_cases q : m = i
  · subst q; simp [h]
  · simp [q]
theorem setb_no {P m : Nat} (h : P.testBit m = false) : P ||| 2 ^ m = P + 2 ^ m := by
  have h1 := or_add_and P (2 ^ m)
  have h2 : P &&& 2 ^ m = 0 := by
    refine Nat.eq_of_testBit_eq (fun i => ?_)
    rw [Nat.testBit_and, Nat.testBit_two_pow, Nat.zero_testBit]
    by_cases q : m = i
    · subst q; simp [h]
    · simp [q]
  omega
theorem same_self (n P M : Nat) (H : Fin 16 → Int) (g : Good P M H) (hn : 40 < n) (H' : Fin 16 → Int) :
    G_ringlaw5_same n ⟨(P : Int), (M : Int), H'⟩ ⟨ints (nums P), ints (nums M), H'⟩ = some true :=
  same_ok n _ _ H' _ _ hn (numsL _) (numsL _) nums_lt nums_lt (by rw [bs_nums g.p2 g.p]) (by rw [bs_nums g.m2 g.m])
theorem send_good (n P M : Nat) (H : Fin 16 → Int) (hc : G_sig_Check n ⟨(P : Int), (M : Int), H⟩ = some 0) (g : Good P M H) (hn : 60 < n) (m : Nat) (h1 : 1 ≤ m) (h2 : m ≤ 15) :
    ∃ s' r', G_sig_Send n ⟨(P : Int), (M : Int), H⟩ (m : Int) = some (s', 0) ∧ G_ringref5_Signals_Sent n ⟨ints (nums P), ints (nums M), H⟩ (m : Int) = some r' ∧ G_ringlaw5_same n s' r' = some true := by
  have hm : m < 16 := by omega
  have hin : (0 : Int) ≤ (m : Int) ∧ (m : Int) < 16 := ⟨by omega, by omega⟩
  have c1 : G_sig_Send_C1 n (m : Int) ⟨(P : Int), (M : Int), H⟩ = some (.x0 (decide (H ⟨m, hm⟩ = 1) || (decide (m = 7) && decide (H ⟨m, hm⟩ = 0)))) := by
    unfold G_sig_Send_C1
    simp only
    rw [if_pos hin, getH hm, Option.bind_some]
    by_cases a : H ⟨m, hm⟩ = 1
    · rw [if_pos a, decide_eq_true a]; rfl
    · rw [if_neg a, decide_eq_false a]
      by_cases b : m = 7
      · rw [if_pos (show (m : Int) = 7 by omega), if_pos hin, Option.bind_some, decide_eq_true b]
        by_cases c : H ⟨m, hm⟩ = 0
        · rw [decide_eq_true c, c]; rfl
        · rw [decide_eq_false c, beq_eq_false_iff_ne.2 c]; rfl
      · rw [if_neg (by omega), decide_eq_false b]; rfl
  have c2 : G_ringref5_Signals_Sent_C1 n (m : Int) ⟨ints (nums P), ints (nums M), H⟩ = some (.x0 ((decide (H ⟨m, hm⟩ = 1) || (decide (m = 7) && decide (H ⟨m, hm⟩ = 0))) || decide (m ∈ nums P))) := by
    unfold G_ringref5_Signals_Sent_C1
    simp only
    rw [if_pos hin, getH hm, Option.bind_some]
    by_cases a : H ⟨m, hm⟩ = 1
    · rw [if_pos a, decide_eq_true a]; rfl
    · rw [if_neg a, decide_eq_false a]
      by_cases b : m = 7
      · rw [if_pos (show (m : Int) = 7 by omega), if_pos hin, Option.bind_some, decide_eq_true b]
        by_cases c : H ⟨m, hm⟩ = 0
        · rw [if_pos c, decide_eq_true c]; rfl
        · rw [if_neg c, decide_eq_false c, contains_int n _ m (numsL P) (by omega), Option.bind_some]; rfl
      · rw [if_neg (by omega), decide_eq_false b, contains_int n _ m (numsL P) (by omega), Option.bind_some]; rfl
  have hw := pw hm
  unfold G_sig_Send G_ringref5_Signals_Sent
  rw [hc, Option.bind_some, if_pos rfl, number_yes n m h1 h2, Option.bind_some, if_pos rfl, c1, c2, Option.bind_some, Option.bind_some]
  simp only
  generalize (decide (H ⟨m, hm⟩ = 1) || (decide (m = 7) && decide (H ⟨m, hm⟩ = 0))) = b
  cases b with
  | true =>
    rw [if_pos rfl, if_pos (by simp)]
    exact ⟨_, _, rfl, rfl, same_self n P M H g (by omega) H⟩
  | false =>
    rw [if_neg (by simp), if_pos (by omega), shl1 m (by omega), i64_or_nat _ _ (by have := g.p; omega) (by omega)]
    by_cases hb : P.testBit m
    · have hmem : m ∈ nums P := nums_mem.2 ⟨h1, hm, hb⟩
      rw [if_pos (by simp [hmem]), setb_yes hb]
      exact ⟨_, _, rfl, rfl, same_self n P M H g (by omega) H⟩
    · have hmem : ¬ m ∈ nums P := fun q => hb (nums_mem.1 q).2.2
      have hb' : P.testBit m = false := by simpa using hb
      rw [if_neg (by simp [hmem]), setb_no hb']
      have hl := nums_len P
      unfold G_slices_Clone_int_int
      rw [app_arg (by rw [ints_len]; omega) (by omega), Option.bind_some, app_some (by rw [ints_len]; simp; omega) (by omega), Option.bind_some]
      have e : ints (nums P) ++ [(m : Int)] = ints (nums P ++ [m]) := by simp [ints]
      rw [e]
      obtain ⟨r, r1, r2, _⟩ := so.sorted n (lt := Go.Sort.ltInt) lessI Go.Sort.swo_ltInt (ints (nums P ++ [m])) (by rw [ints_len]; simp; omega) (by rw [ints_len]; simp; omega)
      obtain ⟨L, rfl, hL⟩ := perm_ints r2
      rw [r1, Option.bind_some]
      have hlen : L.length ≤ 20 := by rw [hL.length_eq]; simp; omega
      refine ⟨_, _, rfl, rfl, same_ok n _ _ H L (nums M) (by omega) hlen (numsL M) (fun k hk => ?_) nums_lt ?_ (by rw [bs_nums g.m2 g.m])⟩
      · have := hL.mem_iff.1 hk
        rw [List.mem_append, List.mem_singleton] at this
        rcases this with q | q
        · exact nums_lt k q
        · omega
      · rw [bs_perm hL, bs_app, bs_nums g.p2 g.p, bs_cons]
        simp [bs]
theorem send_bad (n P M : Nat) (H : Fin 16 → Int) (hc : G_sig_Check n ⟨(P : Int), (M : Int), H⟩ = some 0) (x : Int) (h : x < 1 ∨ x > 15) :
    G_sig_Send n ⟨(P : Int), (M : Int), H⟩ x = some (S_sig_Set.mk 0 0 (fun (_ : Fin 16) => 0), 1) := by
  unfold G_sig_Send
  rw [hc, Option.bind_some, if_pos rfl, number_no n x h, Option.bind_some, if_neg (by simp)]
theorem handle_bad (n P M : Nat) (H : Fin 16 → Int) (hc : G_sig_Check n ⟨(P : Int), (M : Int), H⟩ = some 0) (x how : Int) (h : x < 1 ∨ x > 15) :
    G_sig_Handle n ⟨(P : Int), (M : Int), H⟩ x how = some (S_sig_Set.mk 0 0 (fun (_ : Fin 16) => 0), 1) := by
  unfold G_sig_Handle
  rw [hc, Option.bind_some, if_pos rfl, number_no n x h, Option.bind_some, if_neg (by simp)]
theorem handle_neg (n P M : Nat) (H : Fin 16 → Int) (hc : G_sig_Check n ⟨(P : Int), (M : Int), H⟩ = some 0) (m : Nat) (how : Int) (h1 : 1 ≤ m) (h2 : m ≤ 15) (h : how < 0) :
    G_sig_Handle n ⟨(P : Int), (M : Int), H⟩ (m : Int) how = some (S_sig_Set.mk 0 0 (fun (_ : Fin 16) => 0), 1) := by
  unfold G_sig_Handle
  rw [hc, Option.bind_some, if_pos rfl, number_yes n m h1 h2, Option.bind_some, if_pos rfl, if_pos h]
theorem handle_9 (n P M : Nat) (H : Fin 16 → Int) (hc : G_sig_Check n ⟨(P : Int), (M : Int), H⟩ = some 0) (how : Int) (h : ¬ how < 0) :
    G_sig_Handle n ⟨(P : Int), (M : Int), H⟩ 9 how = some (S_sig_Set.mk 0 0 (fun (_ : Fin 16) => 0), 7) := by
  have := number_yes n 9 (by omega) (by omega)
  unfold G_sig_Handle
  rw [hc, Option.bind_some, if_pos rfl, show (9 : Int) = ((9 : Nat) : Int) from rfl, this, Option.bind_some, if_pos rfl, if_neg h, if_pos rfl]
theorem handle_good (n P M : Nat) (H : Fin 16 → Int) (hc : G_sig_Check n ⟨(P : Int), (M : Int), H⟩ = some 0) (g : Good P M H) (m : Nat) (how : Int) (h1 : 1 ≤ m) (h2 : m ≤ 15) (h9 : m ≠ 9) (h : ¬ how < 0) :
    G_sig_Handle n ⟨(P : Int), (M : Int), H⟩ (m : Int) how = some (⟨if how = 1 then ((clr P m : Nat) : Int) else (P : Int), (M : Int), setA H (m : Int) how⟩, 0) := by
  unfold G_sig_Handle
  rw [hc, Option.bind_some, if_pos rfl, number_yes n m h1 h2, Option.bind_some, if_pos rfl, if_neg h, if_neg (by omega), if_pos ⟨by omega, by omega⟩]
  simp only
  rw [getH (show m < 16 by omega), Option.bind_some]
  by_cases q : how = 1
  · rw [if_pos q, if_pos q, if_pos (by omega), andNot_clr P m g.p (by omega)]
  · rw [if_neg q, if_neg q]
theorem split_and (N y : Nat) (hN : N < 65536) (hy : y < 18446744073709551616) : (N &&& (18446744073709551615 - y)) + (N &&& y) = N := by
  have h1 := or_add_and (N &&& (18446744073709551615 - y)) (N &&& y)
  have h2 : (N &&& (18446744073709551615 - y)) ||| (N &&& y) = N := by
    refine Nat.eq_of_testBit_eq (fun i => ?_)
    rw [Nat.testBit_or, tb_andNot N y i hN hy, Nat.testBit_and]
    cases N.testBit i <;> cases y.testBit i <;> rfl
  have h3 : (N &&& (18446744073709551615 - y)) &&& (N &&& y) = 0 := by
    refine Nat.eq_of_testBit_eq (fun i => ?_)
    rw [Nat.testBit_and, tb_andNot N y i hN hy, Nat.testBit_and, Nat.zero_testBit]
    cases N.testBit i <;> cases y.testBit i <;> rfl
  omega
theorem hold_good (n P M : Nat) (H : Fin 16 → Int) (hc : G_sig_Check n ⟨(P : Int), (M : Int), H⟩ = some 0) (N : Nat) (h1 : N < 65536) (h2 : N % 2 = 0) :
    G_sig_Hold n ⟨(P : Int), (M : Int), H⟩ (N : Int) = some (⟨(P : Int), wi .i64 ((N : Int) - bits .and .i64 (N : Int) 512), H⟩, 0) := by
  unfold G_sig_Hold
  have k := (okbits (N : Int) (by omega) (by omega)).2 ⟨by omega, by omega, by omega⟩
  rw [hc, Option.bind_some, if_pos rfl, if_pos k]
  have a1 := i64_andNot_nat N 512 (by omega) (by omega)
  have a2 := i64_and_nat N 512 (by omega) (by omega)
  rw [show ((512 : Nat) : Int) = 512 from rfl] at a1 a2
  rw [a1, a2]
  have s := split_and N 512 h1 (by omega)
  have w : wi .i64 ((N : Int) - ((N &&& 512 : Nat) : Int)) = ((N &&& (18446744073709551615 - 512) : Nat) : Int) := by
    generalize N &&& (18446744073709551615 - 512) = A at *
    generalize N &&& 512 = B at *
    rw [wi64 (by omega) (by omega)]; omega
  rw [w]
theorem hold_bad (n P M : Nat) (H : Fin 16 → Int) (hc : G_sig_Check n ⟨(P : Int), (M : Int), H⟩ = some 0) (x : Int) (hx1 : -9223372036854775808 ≤ x) (hx2 : x ≤ 9223372036854775807) (h : ¬ (0 ≤ x ∧ x ≤ 65535 ∧ x % 2 = 0)) :
    G_sig_Hold n ⟨(P : Int), (M : Int), H⟩ x = some (S_sig_Set.mk 0 0 (fun (_ : Fin 16) => 0), 1) := by
  unfold G_sig_Hold
  rw [hc, Option.bind_some, if_pos rfl, if_neg (fun q => h ((okbits x hx1 hx2).1 q))]
/-- the ways of a child, done up to i -/
def hw (H : Fin 16 → Int) (i : Nat) : Fin 16 → Int := fun j => if j.1 < i ∧ H j > 1 then 0 else H j
theorem hw_at (H : Fin 16 → Int) (i : Nat) (h : i < 16) : hw H i ⟨i, h⟩ = H ⟨i, h⟩ := by
  unfold hw
  rw [if_neg (by simp)]
theorem hw_set (H : Fin 16 → Int) (i : Nat) (h : i < 16) (hg : H ⟨i, h⟩ > 1) : setA (hw H i) (i : Int) 0 = hw H (i + 1) := by
  funext j
  unfold setA hw
  rw [Int.toNat_natCast]
  by_cases e : j.1 = i
  · have : j = ⟨i, h⟩ := Fin.ext e
    subst this
    rw [if_pos rfl, if_pos ⟨by simp, hg⟩]
  · rw [if_neg e]
    by_cases q : j.1 < i ∧ H j > 1
    · rw [if_pos q, if_pos ⟨by omega, q.2⟩]
    · rw [if_neg q, if_neg (fun r => q ⟨by omega, r.2⟩)]
theorem hw_skip (H : Fin 16 → Int) (i : Nat) (h : i < 16) (hg : ¬ H ⟨i, h⟩ > 1) : hw H i = hw H (i + 1) := by
  funext j
  unfold hw
  by_cases e : j.1 = i
  · have : j = ⟨i, h⟩ := Fin.ext e
    subst this
    rw [if_neg (fun r => hg r.2), if_neg (fun r => hg r.2)]
  · by_cases q : j.1 < i ∧ H j > 1
    · rw [if_pos q, if_pos ⟨by omega, q.2⟩]
    · rw [if_neg q, if_neg (fun r => q ⟨by omega, r.2⟩)]
theorem child_loop (n : Nat) (p m : Int) (H : Fin 16 → Int) : ∀ (k i : Nat), 16 - i < k → i ≤ 16 →
    G_sig_Child_L1 n k (i : Int) ⟨p, m, hw H i⟩ = some (.x0 ⟨p, m, hw H 16⟩)
  | 0, i, h, _ => by omega
  | k + 1, i, h, hi => by
    rw [G_sig_Child_L1]
    simp only
    by_cases h1 : i < 16
    · rw [if_pos (by omega), if_pos ⟨by omega, by omega⟩, getH h1, Option.bind_some, hw_at H i h1, wi_succ (by omega)]
      by_cases hg : H ⟨i, h1⟩ > 1
      · rw [if_pos hg, if_pos ⟨by omega, by omega⟩, Option.bind_some, hw_set H i h1 hg]
        exact child_loop n p m H k (i + 1) (by omega) (by omega)
      · rw [if_neg hg, hw_skip H i h1 hg]
        exact child_loop n p m H k (i + 1) (by omega) (by omega)
    · have : i = 16 := by omega
      subst this
      rw [if_neg (by omega)]
theorem ref_loop (n : Nat) (a1 a2 : Int) (a3 a4 a5 a6 : S_sig_Set × Int) (r : S_ringref5_Signals) (p m : Int) (W B : List Int) (H : Fin 16 → Int) : ∀ (k i : Nat), 16 - i < k → i ≤ 16 →
    G_ringlaw5_SigSays_L5 n a1 a2 a3 a4 a5 a6 ⟨p, m, H⟩ r k (i : Int) ⟨W, B, hw H i⟩ = some (.x0 ⟨W, B, hw H 16⟩)
  | 0, i, h, _ => by omega
  | k + 1, i, h, hi => by
    rw [G_ringlaw5_SigSays_L5]
    simp only
    by_cases h1 : i < 16
    · rw [if_pos (by omega), if_pos ⟨by omega, by omega⟩, getH h1, Option.bind_some, wi_succ (by omega)]
      by_cases hg : H ⟨i, h1⟩ > 1
      · rw [if_pos hg, if_pos ⟨by omega, by omega⟩, getH h1, Option.bind_some, hw_set H i h1 hg]
        exact ref_loop n a1 a2 a3 a4 a5 a6 r p m W B H k (i + 1) (by omega) (by omega)
      · rw [if_neg hg, hw_skip H i h1 hg]
        exact ref_loop n a1 a2 a3 a4 a5 a6 r p m W B H k (i + 1) (by omega) (by omega)
    · have : i = 16 := by omega
      subst this
      rw [if_neg (by omega)]
theorem hw0 (H : Fin 16 → Int) : hw H 0 = H := by
  funext j
  unfold hw
  rw [if_neg (by omega)]
theorem child_exec (n P M : Nat) (H : Fin 16 → Int) (hc : G_sig_Check n ⟨(P : Int), (M : Int), H⟩ = some 0) (hn : 40 < n) :
    G_sig_Child n ⟨(P : Int), (M : Int), H⟩ true = some (⟨(P : Int), (M : Int), hw H 16⟩, 0) := by
  unfold G_sig_Child
  have h := child_loop n (P : Int) (M : Int) H n 0 (by omega) (by omega)
  rw [hw0] at h
  have h : G_sig_Child_L1 n n 0 ⟨(P : Int), (M : Int), H⟩ = _ := h
  rw [hc, Option.bind_some, if_pos rfl, if_pos rfl, h, Option.bind_some]
theorem child_fork (n P M : Nat) (H : Fin 16 → Int) (hc : G_sig_Check n ⟨(P : Int), (M : Int), H⟩ = some 0) :
    G_sig_Child n ⟨(P : Int), (M : Int), H⟩ false = some (⟨0, (M : Int), H⟩, 0) := by
  unfold G_sig_Child
  rw [hc, Option.bind_some, if_pos rfl, if_neg (by simp)]
theorem same_fork (n P M : Nat) (H : Fin 16 → Int) (g : Good P M H) (hn : 40 < n) :
    G_ringlaw5_same n ⟨0, (M : Int), H⟩ ⟨([] : List Int), ints (nums M), H⟩ = some true :=
  same_ok n 0 _ H [] (nums M) hn (by simp) (numsL _) (by simp) nums_lt rfl (by rw [bs_nums g.m2 g.m])
end Go.Proofs.Ytjjjaakefnnbpaa.pv
