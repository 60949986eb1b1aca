/- ExtentTurns: the law. -/
import Derived.Test.YtjjjaakefnnbpaaLExt2
namespace Go.Proofs.Ytjjjaakefnnbpaa.pv
set_option linter.all false
open Go.RowKit help
namespace xt

theorem at_step (n : Nat) (pre T : List Ex) (e : Ex) (k b m : Nat) (hl : pre.length ≤ 100) (hm : e.fN = (m : Int)) (hm8 : m ≤ 100) (hb : b ≤ 9223372036854775807) (hs : 0 ≤ e.fStart ∧ e.fStart ≤ 255) :
    G_extent_At_L1 n (pre ++ e :: T) (k + 1) (b : Int) (pre.length : Int) = if b < m then some (.x0 (val e.fStart b)) else G_extent_At_L1 n (pre ++ e :: T) k ((b - m : Nat) : Int) ((pre.length + 1 : Nat) : Int) := by
  rw [G_extent_At_L1, if_pos (by simp; omega), getI_nat]
  have hg : (pre ++ e :: T)[pre.length]? = some e := by simp
  rw [hg, Option.bind_some, hm]
  by_cases h : b < m
  · rw [if_pos (show (b : Int) < (m : Int) by omega), if_pos h]
    unfold val
    by_cases q : e.fStart = 0
    · rw [if_pos q, if_pos q]
    · rw [if_neg q, if_neg q, wi64 (by omega) (by omega)]
  · have e1 : wi .i64 ((b : Int) - (m : Int)) = ((b - m : Nat) : Int) := by rw [wi64 (by omega) (by omega)]; omega
    rw [if_neg (show ¬ (b : Int) < (m : Int) by omega), if_neg h, e1, wi_succ (by omega)]
theorem at_loop (n : Nat) (p : List Int) (hp : okp p) : ∀ (d i x : Nat) (pre : List Ex) (k b : Nat), d = p.length - x → i < x → x ≤ p.length → (∀ j, i ≤ j → j < x → p[j]! = val p[i]! (j - i)) → d + 1 < k → pre.length + d ≤ 20 → b ≤ 9223372036854775807 →
    G_extent_At_L1 n (pre ++ R p d i x) k (b : Int) (pre.length : Int) = if i + b < p.length then some (.x0 p[i + b]!) else some .x1
  | d, i, x, pre, 0, b, _, _, _, _, h, _, _ => by omega
  | 0, i, x, pre, k + 1, b, hd, hi, hx, hc, hk, hl, hb => by
    have h8 := hp.1
    rw [R, at_step n pre [] _ k b (x - i) (by omega) rfl (by omega) hb (pv_ok hp (show i < p.length by omega))]
    by_cases h : b < x - i
    · rw [if_pos h, if_pos (by omega), hc (i + b) (by omega) (by omega), show i + b - i = b by omega]
    · rw [if_neg h, if_neg (by omega)]
      obtain ⟨k, rfl⟩ : ∃ q, k = q + 1 := ⟨k - 1, by omega⟩
      rw [G_extent_At_L1, if_neg (by simp)]
  | d + 1, i, x, pre, k + 1, b, hd, hi, hx, hc, hk, hl, hb => by
    have h8 := hp.1
    have hpi := pv_ok hp (show i < p.length by omega)
    rw [R]
    by_cases q : goes p[i]! (x - i) p[x]! = true
    · rw [if_pos q]
      refine at_loop n p hp d i (x + 1) pre (k + 1) b (by omega) (by omega) (by omega) (fun j h1 h2 => ?_) (by omega) (by omega) hb
      by_cases e : j < x
      · exact hc j h1 e
      · have : j = x := by omega
        subst this
        unfold goes at q
        unfold val
        by_cases g : p[i]! = 0
        · rw [if_pos g] at q ⊢
          simpa using q
        · rw [if_neg g] at q ⊢
          simpa using q
    · rw [if_neg q, at_step n pre _ _ k b (x - i) (by omega) rfl (by omega) hb hpi]
      by_cases h : b < x - i
      · rw [if_pos h, if_pos (by omega), hc (i + b) (by omega) (by omega), show i + b - i = b by omega]
      · rw [if_neg h]
        have ih := at_loop n p hp d x (x + 1) (pre ++ [⟨p[i]!, ((x - i : Nat) : Int)⟩]) k (b - (x - i)) (by omega) (by omega) (by omega) (fun j h1 h2 => by
          have : j = x := by omega
          subst this
          unfold val
          rw [Nat.sub_self]
          by_cases g : p[j]! = 0
          · rw [if_pos g]; exact g
          · rw [if_neg g]; simp) (by omega) (by simp; omega) (by omega)
        have e1 : pre ++ [(⟨p[i]!, ((x - i : Nat) : Int)⟩ : Ex)] ++ R p d x (x + 1) = pre ++ ⟨p[i]!, ((x - i : Nat) : Int)⟩ :: R p d x (x + 1) := by simp
        have e2 : (pre ++ [(⟨p[i]!, ((x - i : Nat) : Int)⟩ : Ex)]).length = pre.length + 1 := by simp
        rw [e1, e2, show x + (b - (x - i)) = i + b by omega] at ih
        exact ih
theorem at_any (n : Nat) (hn : 110 < n) (p : List Int) (hp : okp p) (b : Nat) (hb : b ≤ 9223372036854775807) : G_extent_At n (full p) (b : Int) = some (if b < p.length then p[b]! else 0) := by
  have h8 := hp.1
  unfold G_extent_At full
  rw [if_neg (by omega)]
  by_cases h0 : p = []
  · obtain ⟨k, rfl⟩ : ∃ k, n = k + 1 := ⟨n - 1, by omega⟩
    rw [if_pos h0, G_extent_At_L1, if_neg (by simp), if_neg (by subst h0; simp)]
    rfl
  · have hl : 0 < p.length := List.length_pos_iff.2 h0
    have h := at_loop n p hp (p.length - 1) 0 1 [] n b (by omega) (by omega) (by omega) (fun j h1 h2 => by
      have : j = 0 := by omega
      subst this
      unfold val
      by_cases g : p[0]! = 0
      · rw [if_pos g]; exact g
      · rw [if_neg g]; simp) (by omega) (by simp; omega) hb
    rw [List.nil_append, Nat.zero_add] at h
    have h : G_extent_At_L1 n (R p (p.length - 1) 0 1) n (b : Int) 0 = _ := h
    rw [if_neg h0, h]
    by_cases q : b < p.length
    · rw [if_pos q, if_pos q]; rfl
    · rw [if_neg q, if_neg q]; rfl
/-! out of bytes -/
def okb (b : List Int) : Prop := ∀ x ∈ b, 0 ≤ x ∧ x ≤ 255
theorem unp_loop (n : Nat) (b : List Int) (hb : okb b) (h16 : b.length = 16) : ∀ (k j : Nat) (w : List Ex), 8 - j < k → j ≤ 8 → w.length ≤ j → (∀ e ∈ w, 0 ≤ e.fStart ∧ e.fStart ≤ 255) →
    ∃ F : List Ex, G_extent_Unpack_L1 n b k ((2 * j : Nat) : Int) w = some (.x0 F) ∧ G_ringref3_PointsUnpack_L1 n (b2s b) k ((2 * j : Nat) : Int) (w.map pr) = some (.x0 (F.map pr)) ∧ F.length ≤ 8 ∧ (∀ e ∈ F, 0 ≤ e.fStart ∧ e.fStart ≤ 255)
  | 0, j, w, h, _, _, _ => by omega
  | k + 1, j, w, h, hj, hw, hwf => by
    rw [G_extent_Unpack_L1, G_ringref3_PointsUnpack_L1]
    by_cases h1 : j < 8
    · have l0 : 2 * j < b.length := by omega
      have l1 : 2 * j + 1 < b.length := by omega
      have b0 := hb _ (List.getElem_mem l0)
      have b1 := hb _ (List.getElem_mem l1)
      have g0 := getS_b2s b (2 * j) _ (List.getElem?_eq_getElem l0) b0.1 b0.2
      have g1 := getS_b2s b (2 * j + 1) _ (List.getElem?_eq_getElem l1) b1.1 b1.2
      have e1 : wi .i64 (((2 * j : Nat) : Int) + 1) = ((2 * j + 1 : Nat) : Int) := wi_succ (by omega)
      have e2 : wi .i64 (((2 * j : Nat) : Int) + 2) = ((2 * (j + 1) : Nat) : Int) := by rw [wi64 (by omega) (by omega)]; omega
      rw [if_pos (show ((2 * j : Nat) : Int) < (b.length : Int) by omega), if_pos (show ((2 * j : Nat) : Int) < 16 by omega), e1, e2, g0, g1, getI_nat, getI_nat, List.getElem?_eq_getElem l0, List.getElem?_eq_getElem l1]
      simp only [Option.bind_some]
      by_cases hz : b[2 * j + 1] = 0
      · rw [if_neg (by omega), if_pos hz]
        exact ⟨w, rfl, rfl, by omega, hwf⟩
      · have w0 : wi .i64 b[2 * j] = b[2 * j] := wi64 (by omega) (by omega)
        have w1 : wi .i64 b[2 * j + 1] = b[2 * j + 1] := wi64 (by omega) (by omega)
        rw [if_pos (show b[2 * j + 1] > 0 by omega), if_neg hz, w0, w1, app_some (by simp; omega) (by omega), app_some (by simp; omega) (by omega), Option.bind_some, Option.bind_some]
        have e3 : w.map pr ++ [(fun i : Fin 2 => [b[2 * j], b[2 * j + 1]].get i)] = (w ++ [(⟨b[2 * j], b[2 * j + 1]⟩ : Ex)]).map pr := by
          rw [List.map_append]; rfl
        rw [e3]
        exact unp_loop n b hb h16 k (j + 1) _ (by omega) (by omega) (by simp; omega) (fun e he => by
          rw [List.mem_append, List.mem_singleton] at he
          rcases he with he | rfl
          · exact hwf e he
          · exact b0)
    · rw [if_neg (by omega), if_neg (by omega)]
      exact ⟨w, rfl, rfl, by omega, hwf⟩
theorem unpack_any (n : Nat) (hn : 110 < n) (b : List Int) (hb : okb b) : ∃ r : List Int × Int, G_extent_Unpack n b = some r ∧ G_ringref3_PointsUnpack n (b2s b) = some r ∧ r.1.length ≤ 8 := by
  unfold G_extent_Unpack G_ringref3_PointsUnpack
  rw [b2s_size]
  by_cases h16 : (b.length : Int) = 16
  · obtain ⟨F, f1, f2, f3, f4⟩ := unp_loop n b hb (by omega) n 0 [] (by omega) (by omega) (by simp) (by simp)
    have f1 : G_extent_Unpack_L1 n b n 0 [] = _ := f1
    have f2 : G_ringref3_PointsUnpack_L1 n (b2s b) n 0 [] = _ := f2
    obtain ⟨w, e, p1, p2, p3⟩ := points_any n hn F (by omega) (fun e he => by have := f4 e he; omega)
    rw [if_pos h16, if_pos h16, f1, f2, Option.bind_some, Option.bind_some]
    simp only
    rw [p1, p2, Option.bind_some, Option.bind_some]
    simp only
    by_cases he : e = 0
    · rw [if_pos he, if_pos he, pack_any n hn w p3, ppack_any n hn w p3, Option.bind_some, Option.bind_some]
      simp only [if_true]
      cases (!((b2s (bl (full w) ++ List.replicate (16 - 2 * (full w).length) 0)).toList == (b2s b).toList)) with
      | true => exact ⟨([], 3), rfl, rfl, by simp⟩
      | false => exact ⟨(w, 0), rfl, rfl, p3.1⟩
    · rw [if_neg he, if_neg he]
      exact ⟨([], 3), rfl, rfl, by simp⟩
  · rw [if_neg h16, if_neg h16]
    exact ⟨([], 3), rfl, rfl, by simp⟩
theorem equal1 (n : Nat) (hn : 110 < n) (a : List Int) (h : a.length ≤ 100) : G_slices_Equal_int_int n a a = some true := by
  obtain ⟨r, h1, h2⟩ := G_slices_Equal_int_int_sp (n := n) a a (by omega) (by omega)
  rw [h1, h2.2 rfl]
theorem equal2_loop (n : Nat) (l : List (Fin 2 → Int)) (hl : l.length ≤ 100) : ∀ (k i : Nat), l.length - i < k → i ≤ l.length → G_slices_Equal_2_int_2_int_L1 n l l k (i : Int) = some .x1
  | 0, i, h, _ => by omega
  | k + 1, i, h, hi => by
    rw [G_slices_Equal_2_int_2_int_L1]
    by_cases hlt : (i : Int) < (l.length : Int)
    · obtain ⟨x, hx⟩ := get_lt hlt
      have er : eqA_2_int x x = true := by unfold eqA_2_int; simp
      rw [if_pos hlt, getI_nat, hx, Option.bind_some, Option.bind_some, er, if_neg (by simp [eqRes]), wi_succ (by omega)]
      exact equal2_loop n l hl k (i + 1) (by omega) (by omega)
    · rw [if_neg hlt]
theorem equal2 (n : Nat) (hn : 110 < n) (a : List (Fin 2 → Int)) (h : a.length ≤ 100) : G_slices_Equal_2_int_2_int n a a = some true := by
  unfold G_slices_Equal_2_int_2_int
  have := equal2_loop n a h n 0 (by omega) (by omega)
  have : G_slices_Equal_2_int_2_int_L1 n a a n 0 = some .x1 := this
  rw [if_pos rfl, this]; rfl
theorem law (n : Nat) (hn : 110 < n) (p : List Int) (l : List Ex) (b : List Int) (blk : Int) (hl : ∀ e ∈ l, -9223372036854775808 ≤ e.fStart ∧ e.fStart ≤ 9223372036854775807) (hb : okb b) (hblk : blk ≤ 9223372036854775807) :
    G_ringlaw3_ExtentTurns n p l b blk = some true := by
  unfold G_ringlaw3_ExtentTurns
  by_cases hs : p.length ≤ 30 ∧ l.length ≤ 30 ∧ b.length ≤ 40
  · have c1 : G_ringlaw3_ExtentTurns_C1 n p l b blk = some (.x0 false) := by
      unfold G_ringlaw3_ExtentTurns_C1
      rw [if_neg (by omega), if_neg (by omega), decide_eq_false (by omega)]
    obtain ⟨e, r1, r2, r3⟩ := right_any n p (by omega) hn
    obtain ⟨w, pe, q1, q2, q3⟩ := points_any n hn l (by omega) hl
    obtain ⟨u, u1, u2, u3⟩ := unpack_any n hn b hb
    have hw : w.length ≤ 100 := Nat.le_trans q3.1 (by omega)
    rw [c1, Option.bind_some]
    simp only [Bool.false_eq_true, if_false]
    rw [r1, Option.bind_some]
    by_cases he : e = 0
    · have hp := r3.1 he
      subst he
      have hf := full_len hp
      have c2 : ∀ r82 : List Int × Int, r82.2 = 0 → G_ringlaw3_ExtentTurns_C2 n p blk 0 (full p, 0) r82 (w, pe) (w, pe) u u = some (.x0 false) := by
        intro r82 h82
        unfold G_ringlaw3_ExtentTurns_C2
        simp only [r2, Option.bind_some, h82, if_true]
        rw [equal1 n hn w hw, Option.bind_some, if_pos rfl, equal1 n hn u.1 (by omega), Option.bind_some]
        rfl
      rw [of_any n hn p hp, Option.bind_some, pack_any n hn p hp, Option.bind_some, q1, Option.bind_some, runs_any n l (by omega) hn, Option.bind_some, q2, Option.bind_some, u1, Option.bind_some, u2, Option.bind_some, c2 _ rfl, Option.bind_some]
      simp only [Bool.false_eq_true, if_false, if_true]
      have c3 : G_ringlaw3_ExtentTurns_C3 n p blk (full p, 0) (bl (full p) ++ List.replicate (16 - 2 * (full p).length) 0, 0) = some (.x0 (decide (0 ≤ blk ∧ blk < (p.length : Int)))) := by
        unfold G_ringlaw3_ExtentTurns_C3
        by_cases h0 : blk ≥ 0
        · rw [if_pos h0]
          have : (0 ≤ blk ∧ blk < (p.length : Int)) ↔ blk < (p.length : Int) := by omega
          simp only [this]
        · rw [if_neg h0, decide_eq_false (by omega)]
      rw [c3, Option.bind_some]
      simp only
      have hfm : ((full p).map pr).length ≤ 100 := by simp; omega
      by_cases h0 : 0 ≤ blk ∧ blk < (p.length : Int)
      · obtain ⟨B, rfl⟩ := Int.eq_ofNat_of_zero_le h0.1
        rw [if_pos (by simpa using h0), gp (show B < p.length by omega), Option.bind_some]
        unfold G_ringlaw3_ExtentTurns_C4
        simp only
        rw [runs_any n (full p) (by omega) hn, Option.bind_some, rruns_any n hn p hp, Option.bind_some, equal2 n hn _ hfm, Option.bind_some, if_pos rfl, ppack_any n hn p hp, Option.bind_some, if_pos (by simp), at_any n hn p hp B (by omega), Option.bind_some, if_pos (show B < p.length by omega)]
        simp
      · rw [if_neg (by simpa using h0)]
        unfold G_ringlaw3_ExtentTurns_C5
        simp only
        have hat : G_extent_At n (full p) blk = some 0 := by
          by_cases hneg : blk < 0
          · unfold G_extent_At
            rw [if_pos hneg]
          · obtain ⟨B, rfl⟩ := Int.eq_ofNat_of_zero_le (show 0 ≤ blk by omega)
            rw [at_any n hn p hp B (by omega), if_neg (by omega)]
        rw [runs_any n (full p) (by omega) hn, Option.bind_some, rruns_any n hn p hp, Option.bind_some, equal2 n hn _ hfm, Option.bind_some, if_pos rfl, ppack_any n hn p hp, Option.bind_some, if_pos (by simp), hat, Option.bind_some]
        rfl
    · have o1 : G_extent_Of n p = some ([], e) := by
        unfold G_extent_Of
        rw [r2, Option.bind_some, if_neg he]
      have o2 : G_extent_Pack n p = some ([], e) := by
        unfold G_extent_Pack
        rw [o1, Option.bind_some]
        simp only
        rw [if_neg he]
      have c2 : G_ringlaw3_ExtentTurns_C2 n p blk e ([], e) ([], e) (w, pe) (w, pe) u u = some (.x0 false) := by
        unfold G_ringlaw3_ExtentTurns_C2
        simp only [r2, Option.bind_some, if_true]
        rw [equal1 n hn w hw, Option.bind_some, if_pos rfl, equal1 n hn u.1 (by omega), Option.bind_some]
        rfl
      rw [o1, Option.bind_some, o2, Option.bind_some, q1, Option.bind_some, runs_any n l (by omega) hn, Option.bind_some, q2, Option.bind_some, u1, Option.bind_some, u2, Option.bind_some, c2, Option.bind_some]
      simp only [Bool.false_eq_true, if_false]
      rw [if_neg he]
      rfl
  · have c1 : G_ringlaw3_ExtentTurns_C1 n p l b blk = some (.x0 true) := by
      unfold G_ringlaw3_ExtentTurns_C1
      by_cases h1 : (p.length : Int) > 30
      · rw [if_pos h1]
      by_cases h2 : (l.length : Int) > 30
      · rw [if_neg h1, if_pos h2]
      rw [if_neg h1, if_neg h2, decide_eq_true (by omega)]
    rw [c1, Option.bind_some]
    rfl
end xt
end Go.Proofs.Ytjjjaakefnnbpaa.pv
