/- InodeTurns: the runs of points. -/
import Derived.Test.YtjjjaakefnnbpaaLIx
namespace Go.Proofs.Ytjjjaakefnnbpaa.pv
set_option linter.all false
open Go.RowKit help
namespace xt

/-- does q go on after m points from a? -/
def goes (a : Int) (m : Nat) (q : Int) : Bool := if a = 0 then q == 0 else q == a + (m : Int)
/-- the runs from the one that began at i, at x (d points are left) -/
def R (p : List Int) : Nat → Nat → Nat → List Ex
  | 0, i, x => [⟨p[i]!, ((x - i : Nat) : Int)⟩]
  | d + 1, i, x => if goes p[i]! (x - i) p[x]! = true then R p d i (x + 1) else ⟨p[i]!, ((x - i : Nat) : Int)⟩ :: R p d x (x + 1)
def full (p : List Int) : List Ex := if p = [] then [] else R p (p.length - 1) 0 1
theorem gp {p : List Int} {i : Nat} (h : i < p.length) : getI p (i : Int) = some p[i]! := by
  rw [getI_nat, List.getElem?_eq_getElem h, getElem!_pos p i h]
theorem R_len (p : List Int) : ∀ (d i x : Nat), (R p d i x).length ≤ d + 1
  | 0, i, x => by simp [R]
  | d + 1, i, x => by
    rw [R]
    split
    · have := R_len p d i (x + 1); omega
    · have := R_len p d x (x + 1); simp; omega
theorem pv_ok {p : List Int} (h : okp p) {i : Nat} (hi : i < p.length) : 0 ≤ p[i]! ∧ p[i]! ≤ 255 := by
  rw [getElem!_pos p i hi]; exact h.2 _ (List.getElem_mem hi)
theorem of_loop (n : Nat) (p : List Int) (hp : okp p) : ∀ (d i x : Nat) (w : List Ex) (k : Nat), d = p.length - x → i < x → x ≤ p.length → d < k → w.length < x →
    G_extent_Of_L2 n p k (x : Int) (w ++ [⟨p[i]!, ((x - i : Nat) : Int)⟩]) = some (.x0 (w ++ R p d i x))
  | d, i, x, w, 0, _, _, _, h, _ => by omega
  | 0, i, x, w, k + 1, hd, hi, hx, h, hw => by
    rw [G_extent_Of_L2, if_neg (by omega)]
    rfl
  | d + 1, i, x, w, k + 1, hd, hi, hx, h, hw => by
    have h8 := hp.1
    have hxl : x < p.length := by omega
    have hpi := pv_ok hp (show i < p.length by omega)
    have hlen : (w ++ [(⟨p[i]!, ((x - i : Nat) : Int)⟩ : Ex)]).length = w.length + 1 := by simp
    have hw1 : wi .i64 (((w ++ [(⟨p[i]!, ((x - i : Nat) : Int)⟩ : Ex)]).length : Int) - 1) = (w.length : Int) := by rw [hlen, wi64 (by omega) (by omega)]; omega
    have hlast : (w ++ [(⟨p[i]!, ((x - i : Nat) : Int)⟩ : Ex)])[w.length]? = some ⟨p[i]!, ((x - i : Nat) : Int)⟩ := by simp
    have hg : G_extent_goes n ⟨p[i]!, ((x - i : Nat) : Int)⟩ p[x]! = some (goes p[i]! (x - i) p[x]!) := by
      unfold G_extent_goes goes
      simp only
      rw [wi64 (by omega) (by omega)]
      by_cases q : p[i]! = 0
      · rw [if_pos q, if_pos q]
      · rw [if_neg q, if_neg q]
    rw [G_extent_Of_L2, if_pos (show (x : Int) < (p.length : Int) by omega)]
    unfold G_extent_Of_C1
    rw [gp hxl, Option.bind_some, hw1, if_pos (show (w.length : Int) ≥ 0 by omega), if_pos (show (0 : Int) ≤ (w.length : Int) ∧ ((w.length : Int)).toNat < (w ++ [(⟨p[i]!, ((x - i : Nat) : Int)⟩ : Ex)]).length from ⟨by omega, by rw [Int.toNat_natCast]; omega⟩), Int.toNat_natCast, hlast, Option.bind_some, hg, Option.bind_some, R]
    by_cases q : goes p[i]! (x - i) p[x]! = true
    · rw [if_pos q, if_pos q, if_pos (show (0 : Int) ≤ (w.length : Int) ∧ w.length < (w ++ [(⟨p[i]!, ((x - i : Nat) : Int)⟩ : Ex)]).length from ⟨by omega, by omega⟩), Option.bind_some, if_pos (show (0 : Int) ≤ (w.length : Int) ∧ w.length < (w ++ [(⟨p[i]!, ((x - i : Nat) : Int)⟩ : Ex)]).length from ⟨by omega, by omega⟩), Option.bind_some, Option.bind_some]
      simp only
      have e1 : wi .i64 (((x - i : Nat) : Int) + 1) = ((x + 1 - i : Nat) : Int) := by rw [wi64 (by omega) (by omega)]; omega
      have e2 : (w ++ [(⟨p[i]!, ((x - i : Nat) : Int)⟩ : Ex)]).set w.length ⟨p[i]!, ((x + 1 - i : Nat) : Int)⟩ = w ++ [⟨p[i]!, ((x + 1 - i : Nat) : Int)⟩] := by simp
      rw [e1, e2, wi_succ (by omega)]
      exact of_loop n p hp d i (x + 1) w k (by omega) (by omega) (by omega) (by omega) (by omega)
    · rw [if_neg q, if_neg q, app_some (by simp; omega) (by omega), Option.bind_some, Option.bind_some]
      simp only
      rw [wi_succ (by omega)]
      have ih := of_loop n p hp d x (x + 1) (w ++ [⟨p[i]!, ((x - i : Nat) : Int)⟩]) k (by omega) (by omega) (by omega) (by omega) (by simp; omega)
      rw [show x + 1 - x = 1 by omega] at ih
      have e3 : w ++ [(⟨p[i]!, ((x - i : Nat) : Int)⟩ : Ex)] ++ R p d x (x + 1) = w ++ ⟨p[i]!, ((x - i : Nat) : Int)⟩ :: R p d x (x + 1) := by simp
      rw [← e3]
      exact ih
theorem of_any (n : Nat) (hn : 110 < n) (p : List Int) (hp : okp p) : G_extent_Of n p = some (full p, 0) := by
  have h8 := hp.1
  obtain ⟨e, _, h2, h3⟩ := right_any n p (by omega) hn
  have he : e = 0 := h3.2 hp
  unfold G_extent_Of full
  rw [h2, Option.bind_some, if_pos he]
  obtain ⟨k, rfl⟩ : ∃ k, n = k + 1 := ⟨n - 1, by omega⟩
  by_cases h0 : p = []
  · rw [G_extent_Of_L2, if_neg (by subst h0; simp), if_pos h0]; rfl
  · have hl : 0 < p.length := List.length_pos_iff.2 h0
    have ih := of_loop (k + 1) p hp (p.length - 1) 0 1 [] k (by omega) (by omega) (by omega) (by omega) (by simp)
    have hs : G_extent_Of_L2 (k + 1) p (k + 1) 0 [] = some (.x0 (R p (p.length - 1) 0 1)) := by
      rw [G_extent_Of_L2, if_pos (by omega)]
      unfold G_extent_Of_C1
      have g0 := gp hl
      rw [show ((0 : Nat) : Int) = 0 from rfl] at g0
      rw [g0, Option.bind_some, if_neg (by decide), app_some (by simp) (by omega), Option.bind_some, Option.bind_some]
      exact ih
    rw [hs, if_neg h0]; rfl
/-- where the run ends -/
def K (p : List Int) : Nat → Nat → Nat → Nat
  | 0, _, x => x
  | d + 1, i, x => if goes p[i]! (x - i) p[x]! = true then K p d i (x + 1) else x
theorem K_le (p : List Int) : ∀ (d i x : Nat), x ≤ K p d i x ∧ K p d i x ≤ x + d
  | 0, i, x => by simp [K]
  | d + 1, i, x => by
    rw [K]
    split
    · have := K_le p d i (x + 1); omega
    · omega
theorem R_K (p : List Int) : ∀ (d i x : Nat), R p d i x = ⟨p[i]!, ((K p d i x - i : Nat) : Int)⟩ :: (if K p d i x < x + d then R p (x + d - (K p d i x + 1)) (K p d i x) (K p d i x + 1) else [])
  | 0, i, x => by
    rw [R, K, if_neg (by omega)]
  | d + 1, i, x => by
    rw [R, K]
    by_cases q : goes p[i]! (x - i) p[x]! = true
    · rw [if_pos q, if_pos q, R_K p d i (x + 1), show x + 1 + d = x + (d + 1) by omega]
    · rw [if_neg q, if_neg q, if_pos (by omega), show x + (d + 1) - (x + 1) = d by omega]
theorem runs2 (n : Nat) (p : List Int) (hp : okp p) (w : List (Fin 2 → Int)) : ∀ (d i x k : Nat), d = p.length - x → i < x → x ≤ p.length → d < k →
    G_ringref3_Runs_L2 n p (i : Int) k (x : Int) w = some (.x0 ((K p d i x : Nat) : Int) w)
  | d, i, x, 0, _, _, _, h => by omega
  | d, i, x, k + 1, hd, hi, hx, h => by
    have h8 := hp.1
    have hpi := pv_ok hp (show i < p.length by omega)
    have c1 : G_ringref3_Runs_C1 n p (i : Int) (x : Int) w = some (.x0 (decide (x < p.length) && goes p[i]! (x - i) p[x]!) w) := by
      unfold G_ringref3_Runs_C1
      by_cases hxl : x < p.length
      · have ws : wi .i64 (wi .i64 (p[i]! + (x : Int)) - (i : Int)) = p[i]! + ((x - i : Nat) : Int) := by rw [wi64 (x := p[i]! + (x : Int)) (by omega) (by omega), wi64 (by omega) (by omega)]; omega
        rw [if_pos (show (x : Int) < (p.length : Int) by omega), gp (show i < p.length by omega), gp hxl, decide_eq_true hxl]
        simp only [Option.bind_some, Bool.true_and]
        by_cases q : p[i]! = 0
        · rw [show goes p[i]! (x - i) p[x]! = (p[x]! == 0) from if_pos q]
          simp only [if_pos q]
          by_cases q2 : p[x]! = 0
          · rw [if_pos q2, q2]; rfl
          · rw [if_neg q2, beq_eq_false_iff_ne.2 q2]
        · rw [show goes p[i]! (x - i) p[x]! = (p[x]! == p[i]! + ((x - i : Nat) : Int)) from if_neg q]
          simp only [if_neg q]
          rw [ws]
      · rw [if_neg (by omega), decide_eq_false hxl]; rfl
    rw [G_ringref3_Runs_L2, c1, Option.bind_some]
    simp only
    cases d with
    | zero =>
      rw [decide_eq_false (by omega), Bool.false_and, if_neg (by simp)]; rfl
    | succ d =>
      rw [decide_eq_true (by omega), Bool.true_and, K]
      by_cases q : goes p[i]! (x - i) p[x]! = true
      · rw [if_pos q, if_pos q, wi_succ (by omega)]
        exact runs2 n p hp w d i (x + 1) k (by omega) (by omega) (by omega) (by omega)
      · rw [if_neg q, if_neg q]
theorem runs3 (n : Nat) (hn : 110 < n) (p : List Int) (hp : okp p) : ∀ (k i : Nat) (w : List (Fin 2 → Int)), p.length - i < k → i ≤ p.length → w.length ≤ i →
    G_ringref3_Runs_L3 n p k (i : Int) w = some (.x0 (w ++ (if i < p.length then R p (p.length - (i + 1)) i (i + 1) else []).map pr))
  | 0, i, w, h, _, _ => by omega
  | k + 1, i, w, h, hi, hw => by
    have h8 := hp.1
    rw [G_ringref3_Runs_L3]
    by_cases hlt : i < p.length
    · rw [if_pos (by omega), if_pos hlt, wi_succ (by omega), runs2 n p hp w (p.length - (i + 1)) i (i + 1) n rfl (by omega) (by omega) (by omega), Option.bind_some]
      simp only
      have hk := K_le p (p.length - (i + 1)) i (i + 1)
      have hR := R_K p (p.length - (i + 1)) i (i + 1)
      rw [show i + 1 + (p.length - (i + 1)) = p.length by omega] at hR hk
      rw [hR]
      generalize K p (p.length - (i + 1)) i (i + 1) = E at *
      have we : wi .i64 ((E : Int) - (i : Int)) = ((E - i : Nat) : Int) := by rw [wi64 (by omega) (by omega)]; omega
      rw [gp hlt, Option.bind_some, we, app_some (by simp; omega) (by omega), Option.bind_some, runs3 n hn p hp k E _ (by omega) (by omega) (by simp; omega)]
      have e1 : (fun j : Fin 2 => [p[i]!, ((E - i : Nat) : Int)].get j) = pr ⟨p[i]!, ((E - i : Nat) : Int)⟩ := rfl
      rw [e1]
      simp
    · rw [if_neg (by omega), if_neg hlt]
      simp
theorem rruns_any (n : Nat) (hn : 110 < n) (p : List Int) (hp : okp p) : G_ringref3_Runs n p = some ((full p).map pr) := by
  unfold G_ringref3_Runs full
  have h8 := hp.1
  have h := runs3 n hn p hp n 0 [] (by omega) (by omega) (by simp)
  have h : G_ringref3_Runs_L3 n p n 0 [] = _ := h
  rw [h, Option.bind_some]
  by_cases h0 : p = []
  · rw [if_pos h0, if_neg (by subst h0; simp)]; rfl
  · have hl : 0 < p.length := List.length_pos_iff.2 h0
    rw [if_neg h0, if_pos hl]
    simp
theorem full_len {p : List Int} (hp : okp p) : (full p).length ≤ 8 := by
  have h8 := hp.1
  unfold full
  split
  · simp
  · rename_i h0
    have hl : 0 < p.length := List.length_pos_iff.2 h0
    have := R_len p (p.length - 1) 0 1
    omega
/-! bytes -/
def bl (F : List Ex) : List Int := F.flatMap fun e => [wi .u8 e.fStart, wi .u8 e.fN]
theorem bl_len (F : List Ex) : (bl F).length = 2 * F.length := by
  unfold bl
  induction F with
  | nil => rfl
  | cons a F ih => rw [List.flatMap_cons, List.length_append, ih]; simp; omega
theorem bl_app (F G : List Ex) : bl (F ++ G) = bl F ++ bl G := by simp [bl]
theorem pack_loop (n : Nat) (F : List Ex) (hF : F.length ≤ 8) : ∀ (k i : Nat), F.length - i < k → i ≤ F.length →
    G_extent_Pack_L1 n (F, 0) k (i : Int) (bl (F.take i) ++ List.replicate (16 - 2 * i) 0) = some (.x0 (bl F ++ List.replicate (16 - 2 * F.length) 0))
  | 0, i, h, _ => by omega
  | k + 1, i, h, hi => by
    rw [G_extent_Pack_L1]
    simp only
    by_cases h1 : i < F.length
    · have hl : (bl (F.take i)).length = 2 * i := by rw [bl_len]; simp; omega
      have hr : List.replicate (16 - 2 * i) (0 : Int) = 0 :: 0 :: List.replicate (16 - 2 * (i + 1)) 0 := by
        rw [show 16 - 2 * i = (16 - 2 * (i + 1)) + 1 + 1 by omega, List.replicate_succ, List.replicate_succ]
      have e1 : wi .i64 (2 * (i : Int)) = ((2 * i : Nat) : Int) := by rw [wi64 (by omega) (by omega)]; omega
      have e2 : wi .i64 (((2 * i : Nat) : Int) + 1) = ((2 * i + 1 : Nat) : Int) := wi_succ (by omega)
      have hlen : (bl (F.take i) ++ List.replicate (16 - 2 * i) (0 : Int)).length = 16 := by simp [hl]; omega
      have l1 : 2 * i < (bl (F.take i) ++ List.replicate (16 - 2 * i) (0 : Int)).length := by omega
      have l2 : 2 * i + 1 < ((bl (F.take i) ++ List.replicate (16 - 2 * i) (0 : Int)).set (2 * i) (wi .u8 F[i].fStart)).length := by rw [List.length_set]; omega
      rw [if_pos (by omega), getI_nat, List.getElem?_eq_getElem h1, Option.bind_some, e1, e2, if_pos ⟨by omega, by rw [Int.toNat_natCast]; exact l1⟩, Int.toNat_natCast, List.getElem?_eq_getElem l1, Option.bind_some, if_pos ⟨by omega, by rw [Int.toNat_natCast]; exact l2⟩, Int.toNat_natCast, List.getElem?_eq_getElem l2, Option.bind_some, wi_succ (by omega)]
      have e3 : ((bl (F.take i) ++ List.replicate (16 - 2 * i) (0 : Int)).set (2 * i) (wi .u8 F[i].fStart)).set (2 * i + 1) (wi .u8 F[i].fN) = bl (F.take (i + 1)) ++ List.replicate (16 - 2 * (i + 1)) 0 := by
        rw [hr, List.set_append_right _ _ (by omega), hl, Nat.sub_self, List.set_cons_zero, List.set_append_right _ _ (by omega), hl, show 2 * i + 1 - 2 * i = 1 by omega, List.set_cons_succ, List.set_cons_zero, List.take_succ_eq_append_getElem h1, bl_app]
        simp [bl]
      rw [e3]
      exact pack_loop n F hF k (i + 1) (by omega) (by omega)
    · have : i = F.length := by omega
      subst this
      rw [if_neg (by omega), List.take_length]
theorem pack_any (n : Nat) (hn : 110 < n) (p : List Int) (hp : okp p) : G_extent_Pack n p = some (bl (full p) ++ List.replicate (16 - 2 * (full p).length) 0, 0) := by
  unfold G_extent_Pack
  have hf := full_len hp
  have hm : mkL 1 (0 : Int) 16 = some (List.replicate 16 0) := by unfold mkL maxLen; rw [if_pos (by decide)]; rfl
  have h := pack_loop n (full p) hf n 0 (by omega) (by omega)
  have h : G_extent_Pack_L1 n (full p, 0) n 0 (List.replicate 16 0) = _ := h
  rw [of_any n hn p hp, Option.bind_some]
  simp only [if_true]
  rw [hm, Option.bind_some, h, Option.bind_some]
theorem ppack_loop (n : Nat) (F : List Ex) (hF : F.length ≤ 8) : ∀ (k i : Nat), F.length - i < k → i ≤ F.length →
    G_ringref3_PointsPack_L1 n (F.map pr) k (b2s (bl (F.take i))) (i : Int) = some (.x0 (b2s (bl F)))
  | 0, i, h, _ => by omega
  | k + 1, i, h, hi => by
    rw [G_ringref3_PointsPack_L1]
    by_cases h1 : i < F.length
    · have hl : (bl (F.take i)).length = 2 * i := by rw [bl_len]; simp; omega
      have hm : (F.map pr)[i]? = some (pr F[i]) := by rw [List.getElem?_map, List.getElem?_eq_getElem h1]; rfl
      have p0 : pr F[i] 0 = F[i].fStart := rfl
      have p1 : pr F[i] 1 = F[i].fN := rfl
      rw [if_pos (by simp; omega), getI_nat, hm, Option.bind_some, p0, p1, cat_b2s _ _ (by simp [hl]; omega), Option.bind_some, wi_succ (by omega)]
      have e3 : bl (F.take i) ++ [wi .u8 F[i].fStart, wi .u8 F[i].fN] = bl (F.take (i + 1)) := by
        rw [List.take_succ_eq_append_getElem h1, bl_app]; simp [bl]
      rw [e3]
      exact ppack_loop n F hF k (i + 1) (by omega) (by omega)
    · rw [if_neg (by simp; omega), List.take_of_length_le (by omega)]
theorem ppack_any (n : Nat) (hn : 110 < n) (p : List Int) (hp : okp p) : G_ringref3_PointsPack n p = some (b2s (bl (full p) ++ List.replicate (16 - 2 * (full p).length) 0)) := by
  unfold G_ringref3_PointsPack
  have hf := full_len hp
  have h := ppack_loop n (full p) hf n 0 (by omega) (by omega)
  have h : G_ringref3_PointsPack_L1 n ((full p).map pr) n (ByteArray.mk #[]) 0 = _ := h
  rw [rruns_any n hn p hp, Option.bind_some, h, Option.bind_some]
  simp only
  have e : wi .i64 (16 - ((b2s (bl (full p))).size : Int)) = ((16 - 2 * (full p).length : Nat) : Int) := by
    rw [b2s_size, bl_len, wi64 (by omega) (by omega)]; omega
  rw [e, repeat_b2s n _ (by omega), Option.bind_some, cat_b2s _ _ (by rw [bl_len]; simp; omega), Option.bind_some]
end xt
end Go.Proofs.Ytjjjaakefnnbpaa.pv
