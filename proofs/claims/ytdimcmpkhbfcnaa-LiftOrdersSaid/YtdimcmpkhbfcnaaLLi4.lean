/- LiftOrders: the whole law. -/
import Derived.Test.YtdimcmpkhbfcnaaLLi3
namespace Go.Proofs.Ytdimcmpkhbfcnaa.pv
set_option linter.all false
open Go.RowKit help
namespace li

theorem go_len : ∀ (l seg : List Rq) (hd : Int), (go seg hd l).length ≤ 257 * (l.length + 1)
  | [], seg, hd => by
    have := ring_len hd (ent seg)
    rw [go, List.length_nil]; omega
  | r :: l, seg, hd => by
    have h1 := ring_len hd (ent seg)
    have h2 := go_len l [] (nh hd (ring hd (ent seg)))
    have h3 := go_len l (seg ++ [r]) hd
    rw [go, List.length_cons]
    split
    · rw [List.length_append, List.length_cons]; omega
    · omega
theorem rq_bar {r : Rq} (h : r.fBarrier = true) : rq r = bar := by unfold rq; rw [if_pos h]
theorem rq_not {r : Rq} (h : ¬ r.fBarrier = true) : rq r = ⟨r.fSector, b2s r.fData⟩ := by unfold rq; rw [if_neg h]
theorem wayR1 (n : Nat) (l : List Rr) (x : Int) (y : Rr) (hy : 0 ≤ y.fN ∧ y.fN < 256) : ∀ (k : Nat) (h acc : Int), (0 ≤ h ∧ h < 256) → 0 ≤ acc → acc + dist h y.fN ≤ 1000000 → dist h y.fN < (k : Int) →
    G_ringref3_Way_L1 n l x y k h acc = some (.x0 y.fN (acc + dist h y.fN))
  | 0, h, acc, _, _, _, hk => by have := @dist_rng h y.fN; omega
  | k + 1, h, acc, hh, h0, ha, hk => by
    have hr := @dist_rng h y.fN
    unfold G_ringref3_Way_L1
    rw [if_pos hy.1]
    by_cases e : h = y.fN
    · have : dist h y.fN = 0 := by unfold dist; omega
      rw [if_pos e, e]
      have e2 : dist y.fN y.fN = 0 := by unfold dist; omega
      rw [e2, Int.add_zero]
    · have hd : dist ((h + 1) % 256) y.fN = dist h y.fN - 1 := by unfold dist; omega
      have e1 : wi .i64 (h + 1) = h + 1 := wi64 (by omega) (by omega)
      have e2 : wi .i64 (acc + 1) = acc + 1 := wi64 (by omega) (by omega)
      rw [if_neg e, e1, e2, rem_nn (by omega), wayR1 n l x y hy k _ _ (by omega) (by omega) (by omega) (by omega), hd]
      have : acc + 1 + (dist h y.fN - 1) = acc + dist h y.fN := by omega
      rw [this]
theorem wayR2 (n : Nat) (hn : 5000 < n) (l : List Rq) (hl : l.length ≤ 100) (hg : ∀ r ∈ l, bad r = false) : ∀ (k i : Nat) (hd acc : Int), l.length - i < k → i ≤ l.length → (0 ≤ hd ∧ hd < 256) → 0 ≤ acc → acc + 256 * ((l.length - i : Nat) : Int) ≤ 1000000 →
    G_ringref3_Way_L2 n (l.map rq) k hd acc (i : Int) = some (.x0 (acc + way hd (l.drop i)))
  | 0, i, _, _, h, _, _, _, _ => by omega
  | k + 1, i, hd, acc, h, hi, hh, h0, ha => by
    unfold G_ringref3_Way_L2
    by_cases h1 : i < l.length
    · have hx : (l.map rq)[i]? = some (rq l[i]) := by rw [List.getElem?_map, List.getElem?_eq_getElem h1]; rfl
      rw [if_pos (by rw [List.length_map]; omega), getI_nat, hx, Option.bind_some, wi_succ (by omega), List.drop_eq_getElem_cons h1, way]
      by_cases h2 : l[i].fBarrier = true
      · have e : G_ringref3_Way_L1 n (l.map rq) (i : Int) (rq l[i]) n hd acc = some (.x0 hd acc) := by
          obtain ⟨m, rfl⟩ : ∃ m, n = m + 1 := ⟨n - 1, by omega⟩
          rw [rq_bar h2]
          rw [G_ringref3_Way_L1, if_neg (by decide)]
        rw [e, Option.bind_some, if_pos h2]
        exact wayR2 n hn l hl hg k (i + 1) hd acc (by omega) (by omega) hh h0 (by omega)
      · have hgd := good_ok (hg _ (List.getElem_mem h1)) (Bool.eq_false_iff.2 h2)
        have hdr := @dist_rng hd l[i].fSector
        have hN : (rq l[i]).fN = l[i].fSector := by rw [rq_not h2]
        have e := wayR1 n (l.map rq) (i : Int) (rq l[i]) (by rw [hN]; exact hgd.1) n hd acc hh h0 (by rw [hN]; omega) (by rw [hN]; omega)
        rw [e, Option.bind_some, if_neg h2, hN]
        simp only
        rw [wayR2 n hn l hl hg k (i + 1) _ _ (by omega) (by omega) hgd.1 (by omega) (by omega), Int.add_assoc]
    · have : i = l.length := by omega
      rw [if_neg (by rw [List.length_map]; omega), this, List.drop_length, way]; simp
theorem wayR_ok (n : Nat) (hn : 5000 < n) (l : List Rq) (hl : l.length ≤ 100) (hg : ∀ r ∈ l, bad r = false) (hd : Int) (hh : 0 ≤ hd ∧ hd < 256) : G_ringref3_Way n (l.map rq) hd = some (way hd l) := by
  have r := wayR2 n hn l hl hg n 0 hd 0 (by omega) (by omega) hh (by omega) (by omega)
  have r : G_ringref3_Way_L2 n (l.map rq) n hd 0 0 = _ := r
  unfold G_ringref3_Way
  rw [r, Option.bind_some]
  simp
theorem eqS_refl (x : Rr) : eqRes .neq (eqS_ringref3_Req x x) = false := by
  have : eqS_ringref3_Req x x = true := by
    unfold eqS_ringref3_Req
    rw [(Go.MapKept.bytes_beq x.fData x.fData).2 rfl]; simp
  rw [this]; rfl
theorem equal_loop (n : Nat) (l : List Rr) (hl : l.length ≤ 900000) : ∀ (k i : Nat), l.length - i < k → i ≤ l.length → G_slices_Equal_ringref3_Req_ringref3_Req_L1 n l l k (i : Int) = some .x1
  | 0, i, h, _ => by omega
  | k + 1, i, h, hi => by
    unfold G_slices_Equal_ringref3_Req_ringref3_Req_L1
    by_cases h1 : i < l.length
    · rw [if_pos (by omega), getI_nat, List.getElem?_eq_getElem h1, Option.bind_some, Option.bind_some, eqS_refl, if_neg (by simp), wi_succ (by omega)]
      exact equal_loop n l hl k (i + 1) (by omega) (by omega)
    · rw [if_neg (by omega)]
theorem equal_ok (n : Nat) (l : List Rr) (hl : l.length ≤ 900000) (hn : l.length < n) : G_slices_Equal_ringref3_Req_ringref3_Req n l l = some true := by
  have r := equal_loop n l hl n 0 (by omega) (by omega)
  have r : G_slices_Equal_ringref3_Req_ringref3_Req_L1 n l l n 0 = _ := r
  unfold G_slices_Equal_ringref3_Req_ringref3_Req
  rw [if_pos rfl, r]; rfl
theorem bad_all {l : List Rq} (h : l.any bad = false) : ∀ r ∈ l, bad r = false := by
  rw [List.any_eq_false] at h
  intro r hr
  exact Bool.eq_false_iff.2 (h r hr)
theorem err_zero {l : List Rq} (h : err l = 0) : l.length ≤ 100 ∧ ∀ r ∈ l, bad r = false := by
  unfold err at h
  by_cases h1 : l.length > 100
  · rw [if_pos h1] at h; omega
  · rw [if_neg h1] at h
    by_cases h2 : l.any bad = true
    · rw [if_pos h2] at h; omega
    · exact ⟨by omega, bad_all (Bool.eq_false_iff.2 h2)⟩
/-- what is said of a list and a head -/
def said (l : List Rq) (hd : Int) : Int := if hd < 0 ∨ hd > 255 then 1 else err l
theorem said_lo {l : List Rq} {hd : Int} (h : hd < 0) : said l hd = 1 := by unfold said; rw [if_pos (.inl h)]
theorem said_hi {l : List Rq} {hd : Int} (h : hd > 255) : said l hd = 1 := by unfold said; rw [if_pos (.inr h)]
theorem said_mid {l : List Rq} {hd : Int} (h : ¬ hd < 0) (h2 : ¬ hd ≥ 256) : said l hd = err l := by unfold said; rw [if_neg (by omega)]
theorem order_ok (n : Nat) (hn : 5000 < n) (l : List Rq) (hl : l.length ≤ 1000) (hd : Int) : G_lift_Order n l hd = some (if said l hd = 0 then (go [] hd l, 0) else ([], said l hd)) := by
  unfold G_lift_Order G_lift_Order_J1
  by_cases h1 : hd < 0
  · rw [if_pos h1, said_lo h1]; rfl
  · rw [if_neg h1]
    by_cases h2 : hd ≥ 256
    · rw [if_pos h2, said_hi (by omega)]; rfl
    · rw [if_neg h2, said_mid h1 h2, right_ok n hn l hl, Option.bind_some]
      by_cases h3 : err l = 0
      · have hz := err_zero h3
        rw [if_pos h3, if_pos h3, order_loop n hn n l hd [] (by omega) (by omega) (by omega) hz.2 (by simp; omega)]
        rfl
      · rw [if_neg h3, if_neg h3]
theorem way_ok (n : Nat) (hn : 5000 < n) (l : List Rq) (hl : l.length ≤ 1000) (hd : Int) : G_lift_Way n l hd = some (if said l hd = 0 then (way hd l, 0) else (0, said l hd)) := by
  unfold G_lift_Way G_lift_Way_J1
  by_cases h1 : hd < 0
  · rw [if_pos h1, said_lo h1]; rfl
  · rw [if_neg h1]
    by_cases h2 : hd ≥ 256
    · rw [if_pos h2, said_hi (by omega)]; rfl
    · rw [if_neg h2, said_mid h1 h2, right_ok n hn l hl, Option.bind_some]
      by_cases h3 : err l = 0
      · have hz := err_zero h3
        have r := way_loop n l hz.1 hz.2 n 0 hd 0 (by omega) (by omega) (by omega) (by omega) (by omega)
        have r : G_lift_Way_L1 n l n hd 0 0 = _ := r
        rw [if_pos h3, if_pos h3, r]
        simp
      · rw [if_neg h3, if_neg h3]
theorem j1_ok (n : Nat) (hn : 40000 < n) (l : List Rq) (hl : l.length ≤ 1000) (hd : Int) : G_ringlaw3_LiftOrders_J1 n l hd (said l hd) = some true := by
  unfold G_ringlaw3_LiftOrders_J1
  rw [order_ok n (by omega) l hl hd, way_ok n (by omega) l hl hd, Option.bind_some, Option.bind_some]
  by_cases h : said l hd = 0
  · have hh : 0 ≤ hd ∧ hd < 256 := by
      unfold said at h
      by_cases q : hd < 0 ∨ hd > 255
      · rw [if_pos q] at h; omega
      · omega
    have he : err l = 0 := by
      unfold said at h
      rw [if_neg (by omega)] at h; exact h
    obtain ⟨hz, hg⟩ := err_zero he
    have gl := go_len l [] hd
    have gl2 : ((go [] hd l).map rq).length ≤ 257 * 101 := by rw [List.length_map]; omega
    rw [if_pos h, if_pos h, if_pos h]
    unfold G_ringlaw3_LiftOrders_C4
    rw [if_pos rfl, if_pos rfl, requests_ok n (go [] hd l) (by omega) (by omega), Option.bind_some, requests_ok n l (by omega) (by omega), Option.bind_some, lift_ok n (by omega) l hz hg hd hh, Option.bind_some, equal_ok n _ (by omega) (by omega), Option.bind_some, if_pos rfl, Option.bind_some, wayR_ok n (by omega) l hz hg hd hh, Option.bind_some, Option.bind_some]
    simp
  · rw [if_neg h, if_neg h, if_neg h]
    unfold G_ringlaw3_LiftOrders_C3
    rw [if_pos rfl, if_pos rfl]
    rfl
theorem c1_ok (n : Nat) (l : List Rq) (hd e x : Int) (r : Rq) : G_ringlaw3_LiftOrders_C1 n l hd e x r = some (.x0 (decide (e = 0) && bad r)) := by
  unfold G_ringlaw3_LiftOrders_C1 bad
  by_cases h0 : e = 0
  · rw [if_pos h0, decide_eq_true h0, Bool.true_and]
    by_cases h : r.fBarrier = true
    · rw [if_pos h, if_pos h]
    · rw [if_neg h, if_neg h]
      by_cases h1 : r.fSector < 0
      · rw [if_pos h1, decide_eq_true h1]; simp
      · rw [if_neg h1, decide_eq_false h1]
        by_cases h2 : r.fSector > 255
        · rw [if_pos h2, decide_eq_true h2]; simp
        · rw [if_neg h2, decide_eq_false h2]; simp
  · rw [if_neg h0, decide_eq_false h0, Bool.false_and]
/-- what becomes of the first word -/
def nx (e : Int) (l : List Rq) : Int := if e = 0 then if l.any bad then 1 else 0 else e
theorem check_loop (n : Nat) (l : List Rq) (hl : l.length ≤ 1000) (hd : Int) : ∀ (k i : Nat) (e : Int), l.length - i < k → i ≤ l.length →
    G_ringlaw3_LiftOrders_L2 n l hd k e (i : Int) = some (.x0 true) ∨ G_ringlaw3_LiftOrders_L2 n l hd k e (i : Int) = some (.x1 (nx e (l.drop i)))
  | 0, i, _, h, _ => by omega
  | k + 1, i, e, h, hi => by
    unfold G_ringlaw3_LiftOrders_L2
    by_cases h1 : i < l.length
    · rw [if_pos (by omega), getI_nat, List.getElem?_eq_getElem h1, Option.bind_some, c1_ok, Option.bind_some, wi_succ (by omega), List.drop_eq_getElem_cons h1]
      by_cases h2 : (l[i].fData.length : Int) > 100
      · rw [if_pos h2]; exact .inl rfl
      · rw [if_neg h2]
        simp only
        by_cases h3 : (decide (e = 0) && bad l[i]) = true
        · rw [if_pos h3]
          rw [Bool.and_eq_true, decide_eq_true_eq] at h3
          have : nx e (l[i] :: l.drop (i + 1)) = nx 1 (l.drop (i + 1)) := by
            unfold nx
            rw [List.any_cons, h3.2, h3.1]; simp
          rw [this]
          exact check_loop n l hl hd k (i + 1) 1 (by omega) (by omega)
        · rw [if_neg h3]
          have : nx e (l[i] :: l.drop (i + 1)) = nx e (l.drop (i + 1)) := by
            unfold nx
            by_cases h4 : e = 0
            · rw [if_pos h4, if_pos h4]
              rw [decide_eq_true h4, Bool.true_and] at h3
              rw [List.any_cons, Bool.eq_false_iff.2 h3, Bool.false_or]
            · rw [if_neg h4, if_neg h4]
          rw [this]
          exact check_loop n l hl hd k (i + 1) e (by omega) (by omega)
    · have : i = l.length := by omega
      rw [if_neg (by omega), this, List.drop_length]
      refine .inr ?_
      unfold nx
      simp
theorem j3_ok (n : Nat) (hn : 40000 < n) (l : List Rq) (hl : l.length ≤ 1000) (hd e : Int) (he : nx e l = err l) : G_ringlaw3_LiftOrders_J3 n l hd e = some true := by
  unfold G_ringlaw3_LiftOrders_J3
  have c := check_loop n l hl hd n 0 e (by omega) (by omega)
  rw [List.drop_zero, he] at c
  have c : G_ringlaw3_LiftOrders_L2 n l hd n e 0 = some (.x0 true) ∨ G_ringlaw3_LiftOrders_L2 n l hd n e 0 = some (.x1 (err l)) := c
  rcases c with c | c
  · rw [c, Option.bind_some]
  · rw [c, Option.bind_some]
    simp only
    rw [right_ok n (by omega) l hl, Option.bind_some, if_pos rfl]
    unfold G_ringlaw3_LiftOrders_J2
    have j := j1_ok n hn l hl hd
    by_cases h1 : hd < 0
    · have : said l hd = 1 := by unfold said; rw [if_pos (.inl h1)]
      rw [this] at j
      rw [if_pos h1]; exact j
    · rw [if_neg h1]
      by_cases h2 : hd > 255
      · have : said l hd = 1 := by unfold said; rw [if_pos (.inr h2)]
        rw [this] at j
        rw [if_pos h2]; exact j
      · have : said l hd = err l := by unfold said; rw [if_neg (by omega)]
        rw [this] at j
        rw [if_neg h2]; exact j
theorem H (l : List Rq) (hd : Int) : ∃ n, G_ringlaw3_LiftOrders n l hd = some true := by
  refine ⟨40001, ?_⟩
  have : ∀ n, 40000 < n → G_ringlaw3_LiftOrders n l hd = some true := by
    intro n hn
    unfold G_ringlaw3_LiftOrders
    by_cases h1 : (l.length : Int) > 120
    · rw [if_pos h1]
    · rw [if_neg h1]
      by_cases h2 : (l.length : Int) > 100
      · rw [if_pos h2]
        refine j3_ok n hn l (by omega) hd 2 ?_
        unfold nx err
        rw [if_neg (by decide), if_pos (by omega)]
      · rw [if_neg h2]
        refine j3_ok n hn l (by omega) hd 0 ?_
        unfold nx err
        rw [if_pos rfl, if_neg (by omega : ¬ l.length > 100)]
  exact this 40001 (by decide)
end li
end Go.Proofs.Ytdimcmpkhbfcnaa.pv
