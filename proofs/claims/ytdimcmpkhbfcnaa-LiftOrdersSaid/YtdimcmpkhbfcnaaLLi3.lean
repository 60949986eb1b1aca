/- LiftOrders: all of it in order, at the program and at the document. -/
import Derived.Test.YtdimcmpkhbfcnaaLLi2
namespace Go.Proofs.Ytdimcmpkhbfcnaa.pv
set_option linter.all false
open Go.RowKit help
namespace li

/-- is a request right? -/
def bad (r : Rq) : Bool := if r.fBarrier = true then false else (decide (r.fSector < 0) || decide (r.fSector > 255) || ((r.fData.length : Int) != 64))
theorem good_ok {r : Rq} (h : bad r = false) (hb : r.fBarrier = false) : (0 ≤ r.fSector ∧ r.fSector < 256) ∧ r.fData.length = 64 := by
  unfold bad at h
  rw [hb] at h
  simp only [Bool.false_eq_true, if_false, Bool.or_eq_false_iff, decide_eq_false_iff_not] at h
  obtain ⟨⟨h1, h2⟩, h3⟩ := h
  have : (r.fData.length : Int) = 64 := by simpa using h3
  omega
theorem right_c (n : Nat) (l : List Rq) (i : Int) (r : Rq) : G_lift_Right_C1 n l i r = some (.x0 (bad r)) := by
  unfold G_lift_Right_C1 bad
  by_cases h : r.fBarrier = true
  · rw [if_pos h, if_pos h]
  · rw [if_neg h, if_neg h]
    by_cases h1 : r.fSector < 0
    · rw [if_pos h1, decide_eq_true h1]; simp
    · rw [if_neg h1, decide_eq_false h1]
      by_cases h2 : r.fSector ≥ 256
      · rw [if_pos h2, decide_eq_true (by omega : r.fSector > 255)]; simp
      · rw [if_neg h2, decide_eq_false (by omega : ¬ r.fSector > 255)]; simp
theorem right_loop (n : Nat) (l : List Rq) (hl : l.length ≤ 1000) : ∀ (k i : Nat), l.length - i < k → i ≤ l.length →
    G_lift_Right_L2 n l k (i : Int) = some (if (l.drop i).any bad then .x0 1 else .x1)
  | 0, i, h, _ => by omega
  | k + 1, i, h, hi => by
    unfold G_lift_Right_L2
    by_cases h1 : i < l.length
    · rw [if_pos (by omega), getI_nat, List.getElem?_eq_getElem h1, Option.bind_some, right_c, Option.bind_some, List.drop_eq_getElem_cons h1, List.any_cons]
      simp only
      by_cases h2 : bad l[i] = true
      · rw [if_pos h2, h2]; rfl
      · rw [if_neg h2, Bool.eq_false_iff.2 h2, wi_succ (by omega), right_loop n l hl k (i + 1) (by omega) (by omega)]; rfl
    · have : i = l.length := by omega
      rw [if_neg (by omega), this, List.drop_length]; rfl
def err (l : List Rq) : Int := if l.length > 100 then 2 else if l.any bad then 1 else 0
theorem right_ok (n : Nat) (hn : 5000 < n) (l : List Rq) (hl : l.length ≤ 1000) : G_lift_Right n l = some (err l) := by
  unfold G_lift_Right err
  by_cases h : l.length > 100
  · rw [if_pos (by omega), if_pos h]
  · have r := right_loop n l hl n 0 (by omega) (by omega)
    rw [List.drop_zero] at r
    have r : G_lift_Right_L2 n l n 0 = _ := r
    rw [if_neg (by omega), if_neg h, r]
    by_cases h2 : l.any bad = true
    · rw [if_pos h2, if_pos h2]; rfl
    · rw [if_neg h2, if_neg h2]; rfl
/-- in order: between barriers round from the head on -/
def go : List Rq → Int → List Rq → List Rq
  | seg, hd, [] => ring hd (ent seg)
  | seg, hd, r :: rest => if r.fBarrier = true then ring hd (ent seg) ++ (⟨0, [], true⟩ : Rq) :: go [] (nh hd (ring hd (ent seg))) rest else go (seg ++ [r]) hd rest
theorem go_seg : ∀ (q seg : List Rq) (hd : Int) (rest : List Rq), (∀ r ∈ q, r.fBarrier = false) → go seg hd (q ++ rest) = go (seg ++ q) hd rest
  | [], seg, hd, rest, _ => by simp
  | r :: q, seg, hd, rest, h => by
    rw [List.cons_append, go, if_neg (by rw [h r (by simp)]; simp), go_seg q _ hd rest (fun x hx => h x (by simp [hx]))]
    simp
theorem ring_nil (hd : Int) : ring hd (ent []) = [] := by
  unfold ring
  rw [List.filterMap_eq_nil_iff]
  intro k _; rfl
theorem idx (n : Nat) (l : List Rq) (hl : l.length ≤ 1000) : ∀ (k i : Nat), l.length - i < k → i ≤ l.length → (∀ j (h : j < l.length), j < i → l[j].fBarrier = false) →
    (G_slices_IndexFunc_lift_Req_lift_Req_L1 n l (fun (y0 : S_lift_Req) => G_lift_Order_1 n y0) k (i : Int) = some .x1 ∧ ∀ r ∈ l, r.fBarrier = false) ∨
    ∃ (j : Nat) (h : j < l.length), G_slices_IndexFunc_lift_Req_lift_Req_L1 n l (fun (y0 : S_lift_Req) => G_lift_Order_1 n y0) k (i : Int) = some (.x0 (j : Int)) ∧ l[j].fBarrier = true ∧ ∀ r ∈ l.take j, r.fBarrier = false
  | 0, i, h, _, _ => by omega
  | k + 1, i, h, hi, hb => by
    unfold G_slices_IndexFunc_lift_Req_lift_Req_L1
    by_cases h1 : i < l.length
    · rw [if_pos (by omega), getI_nat, List.getElem?_eq_getElem h1, Option.bind_some]
      unfold G_lift_Order_1
      rw [Option.bind_some]
      by_cases h2 : l[i].fBarrier = true
      · rw [if_pos h2]
        refine .inr ⟨i, h1, rfl, h2, fun r hr => ?_⟩
        obtain ⟨j, hj, rfl⟩ := List.getElem_of_mem hr
        rw [List.length_take] at hj
        rw [List.getElem_take]
        exact hb j (by omega) (by omega)
      · rw [if_neg h2, wi_succ (by omega)]
        have ih := idx n l hl k (i + 1) (by omega) (by omega) (fun j hj hj2 => by
          by_cases e : j = i
          · subst e; exact Bool.eq_false_iff.2 h2
          · exact hb j hj (by omega))
        unfold G_lift_Order_1 at ih
        exact ih
    · rw [if_neg (by omega)]
      refine .inl ⟨rfl, fun r hr => ?_⟩
      obtain ⟨j, hj, rfl⟩ := List.getElem_of_mem hr
      exact hb j hj (by omega)
theorem okr_of {l : List Rq} (h : ∀ r ∈ l, bad r = false) {m : List Rq} (hs : ∀ r ∈ m, r ∈ l) (hb : ∀ r ∈ m, r.fBarrier = false) : Okr m := fun r hr => by
  have := good_ok (h r (hs r hr)) (hb r hr)
  exact ⟨this.1, by omega⟩
set_option maxRecDepth 20000 in
theorem order_loop (n : Nat) (hn : 5000 < n) : ∀ (k : Nat) (l : List Rq) (hd : Int) (out : List Rq), l.length < k → l.length ≤ 1000 → (0 ≤ hd ∧ hd < 256) → (∀ r ∈ l, bad r = false) → out.length + 257 * (l.length + 1) ≤ 900000 →
    G_lift_Order_L2 n k l hd out = some (.x0 (out ++ go [] hd l)) := by
  intro k
  induction k with
  | zero => intro l hd out h; omega
  | succ k ihk =>
    intro l hd out h hl hh hg ho
    unfold G_lift_Order_L2
    by_cases h0 : (l.length : Int) > 0
    · rw [if_pos h0]
      unfold G_slices_IndexFunc_lift_Req_lift_Req
      rcases idx n l hl n 0 (by omega) (by omega) (fun j _ hj => by omega) with ⟨q1, q2⟩ | ⟨j, hj, q1, q2, q3⟩
      · have q1 : G_slices_IndexFunc_lift_Req_lift_Req_L1 n l (fun (y0 : S_lift_Req) => G_lift_Order_1 n y0) n 0 = _ := q1
        have hr := ring_len hd (ent l)
        have hs1 : sub l 0 (l.length : Int) = some l := by unfold sub; rw [if_pos ⟨by omega, by omega, by omega⟩]; simp
        have hs2 : sub l (l.length : Int) (l.length : Int) = some [] := by unfold sub; rw [if_pos ⟨by omega, by omega, by omega⟩]; simp
        rw [q1, Option.bind_some]
        simp only
        rw [Option.bind_some]
        unfold G_lift_Order_C1
        rw [if_pos (by omega), Option.bind_some]
        simp only
        rw [hs1, Option.bind_some, part_ok n hn l hd hh hl (okr_of hg (fun r h => h) q2), Option.bind_some]
        simp only
        rw [app_some (by omega) (by omega), Option.bind_some, if_neg (by omega), hs2, Option.bind_some]
        have e : go [] hd l = ring hd (ent l) := by
          have := go_seg l [] hd [] q2
          rw [List.append_nil, List.nil_append] at this
          rw [this]; rfl
        have ih := ihk [] (nh hd (ring hd (ent l))) (out ++ ring hd (ent l)) (by simp; omega) (by simp) (nh_rng hh _) (by simp) (by simp; omega)
        have e0 : ∀ hd', go [] hd' [] = [] := fun hd' => ring_nil hd'
        rw [ih, e0, e, List.append_nil]
      · have q1 : G_slices_IndexFunc_lift_Req_lift_Req_L1 n l (fun (y0 : S_lift_Req) => G_lift_Order_1 n y0) n 0 = _ := q1
        have hr := ring_len hd (ent (l.take j))
        have hs1 : sub l 0 (j : Int) = some (l.take j) := by unfold sub; rw [if_pos ⟨by omega, by omega, by omega⟩]; simp
        have hs2 : sub l ((j + 1 : Nat) : Int) (l.length : Int) = some (l.drop (j + 1)) := by
          unfold sub; rw [if_pos ⟨by omega, by omega, by omega⟩]; simp
        have hlt : (l.take j).length = j := by rw [List.length_take]; omega
        have hmem : ∀ r ∈ l.take j, r ∈ l := fun r hr => List.mem_of_mem_take hr
        rw [q1, Option.bind_some]
        simp only
        rw [Option.bind_some]
        unfold G_lift_Order_C1
        rw [if_neg (by omega), Option.bind_some]
        simp only
        rw [hs1, Option.bind_some, part_ok n hn (l.take j) hd hh (by omega) (okr_of hg hmem q3), Option.bind_some]
        simp only
        rw [app_some (by omega) (by omega), Option.bind_some, if_pos (by omega), app_some (by simp only [List.length_append, List.length_cons, List.length_nil]; omega) (by omega), Option.bind_some, wi_succ (by omega), hs2, Option.bind_some]
        have hdl : (l.drop (j + 1)).length = l.length - (j + 1) := List.length_drop
        have hsz : (out ++ ring hd (ent (l.take j)) ++ [(⟨0, [], true⟩ : Rq)]).length + 257 * ((l.drop (j + 1)).length + 1) ≤ 900000 := by
          rw [List.length_append, List.length_append, hdl, List.length_singleton]
          clear q1 hs1 hs2 hg hmem q2 q3 ihk
          generalize (ring hd (ent (l.take j))).length = z at hr ⊢
          generalize out.length = y at ho ⊢
          omega
        have ih := ihk (l.drop (j + 1)) (nh hd (ring hd (ent (l.take j)))) (out ++ ring hd (ent (l.take j)) ++ [⟨0, [], true⟩]) (by omega) (by omega) (nh_rng hh _) (fun r hr => hg r (List.mem_of_mem_drop hr)) hsz
        rw [ih]
        have e : go [] hd l = ring hd (ent (l.take j)) ++ (⟨0, [], true⟩ : Rq) :: go [] (nh hd (ring hd (ent (l.take j)))) (l.drop (j + 1)) := by
          have hsp : l = l.take j ++ l[j] :: l.drop (j + 1) := by
            rw [← List.drop_eq_getElem_cons hj, List.take_append_drop]
          have e1 := go_seg (l.take j) [] hd (l[j] :: l.drop (j + 1)) q3
          rw [← hsp, List.nil_append] at e1
          rw [e1, go, if_pos q2]
        rw [e]
        simp [List.append_assoc]
    · have : l = [] := List.eq_nil_of_length_eq_zero (by omega)
      subst this
      rw [if_neg h0]
      have e0 : go [] hd [] = [] := ring_nil hd
      rw [e0, List.append_nil]
theorem requests_loop (n : Nat) (l : List Rq) (hl : l.length ≤ 900000) : ∀ (k i : Nat), l.length - i < k → i ≤ l.length → G_ringlaw3_requests_L1 n l k (i : Int) ((l.take i).map rq) = some (.x0 (l.map rq))
  | 0, i, h, _ => by omega
  | k + 1, i, h, hi => by
    unfold G_ringlaw3_requests_L1
    by_cases h1 : i < l.length
    · have ih := requests_loop n l hl k (i + 1) (by omega) (by omega)
      rw [List.take_succ_eq_append_getElem h1, List.map_append, List.map_singleton] at ih
      rw [if_pos (by omega), getI_nat, List.getElem?_eq_getElem h1, Option.bind_some, wi_succ (by omega)]
      by_cases h2 : l[i].fBarrier = true
      · have e : rq l[i] = bar := by unfold rq; rw [if_pos h2]
        rw [if_pos h2, app_some (by simp; omega) (by omega), Option.bind_some]
        rw [e] at ih; exact ih
      · have e : rq l[i] = ⟨l[i].fSector, b2s l[i].fData⟩ := by unfold rq; rw [if_neg h2]
        rw [if_neg h2, app_some (by simp; omega) (by omega), Option.bind_some]
        rw [e] at ih; exact ih
    · have : i = l.length := by omega
      rw [if_neg (by omega), this, List.take_length]
theorem requests_ok (n : Nat) (l : List Rq) (hn : l.length < n) (hl : l.length ≤ 900000) : G_ringlaw3_requests n l = some (l.map rq) := by
  unfold G_ringlaw3_requests
  have r := requests_loop n l hl n 0 (by omega) (by omega)
  have r : G_ringlaw3_requests_L1 n l n 0 [] = _ := r
  rw [r]; rfl
/-- the document's loop -/
theorem lift_loop (n : Nat) (hn : 5000 < n) (l : List Rq) (hl : l.length ≤ 100) (hg : ∀ r ∈ l, bad r = false) : ∀ (k i : Nat) (seg : List Rq) (hd : Int) (out : List Rr), l.length - i < k → i ≤ l.length → seg.length ≤ i → (∀ r ∈ seg, r ∈ l) → (∀ r ∈ seg, r.fBarrier = false) → (0 ≤ hd ∧ hd < 256) → out.length ≤ 257 * i →
    ∃ out' hd' seg', G_ringref3_Lift_L1 n (l.map rq) k (i : Int) out (seg.map rq) hd = some (.x0 out' hd' (seg'.map rq)) ∧ seg'.length ≤ 100 ∧ (∀ r ∈ seg', r.fBarrier = false) ∧ (0 ≤ hd' ∧ hd' < 256) ∧ out'.length ≤ 257 * 100 ∧ out' ++ (ring hd' (ent seg')).map rq = out ++ (go seg hd (l.drop i)).map rq
  | 0, i, _, _, _, h, _, _, _, _, _, _ => by omega
  | k + 1, i, seg, hd, out, h, hi, hs, hm, hb, hh, ho => by
    unfold G_ringref3_Lift_L1
    by_cases h1 : i < l.length
    · have hx : (l.map rq)[i]? = some (rq l[i]) := by rw [List.getElem?_map, List.getElem?_eq_getElem h1]; rfl
      rw [if_pos (by simp; omega), getI_nat, hx, Option.bind_some, wi_succ (by omega), List.drop_eq_getElem_cons h1, go]
      by_cases h2 : l[i].fBarrier = true
      · have e : rq l[i] = bar := by unfold rq; rw [if_pos h2]
        have hr := ring_len hd (ent seg)
        have en := end_ok n hn hd hh seg (by omega) hb out (by omega)
        rw [e, if_pos (by decide), en, Option.bind_some, if_pos h2]
        simp only
        rw [app_some (by simp; omega) (by omega), Option.bind_some]
        obtain ⟨o', h', s', r1, r2, r3, r4, r5, r6⟩ := lift_loop n hn l hl hg k (i + 1) [] (nh hd (ring hd (ent seg))) (out ++ (ring hd (ent seg)).map rq ++ [bar]) (by omega) (by omega) (by simp) (by simp) (by simp) (nh_rng hh _) (by simp; omega)
        refine ⟨o', h', s', r1, r2, r3, r4, r5, ?_⟩
        rw [r6]
        simp [List.append_assoc, rq]
      · have e : rq l[i] = ⟨l[i].fSector, b2s l[i].fData⟩ := by unfold rq; rw [if_neg h2]
        have hgd := good_ok (hg _ (List.getElem_mem h1)) (Bool.eq_false_iff.2 h2)
        have hneg : ¬ (rq l[i]).fN < 0 := by rw [e]; simp only; omega
        rw [if_neg hneg, app_some (by simp; omega) (by omega), Option.bind_some, if_neg h2]
        have e2 : seg.map rq ++ [rq l[i]] = (seg ++ [l[i]]).map rq := by simp
        rw [e2]
        exact lift_loop n hn l hl hg k (i + 1) (seg ++ [l[i]]) hd out (by omega) (by omega) (by simp; omega) (fun r hr => by
          rcases List.mem_append.1 hr with hr | hr
          · exact hm r hr
          · rw [List.mem_singleton.1 hr]; exact List.getElem_mem h1) (fun r hr => by
          rcases List.mem_append.1 hr with hr | hr
          · exact hb r hr
          · rw [List.mem_singleton.1 hr]; exact Bool.eq_false_iff.2 h2) hh (by omega)
    · have : i = l.length := by omega
      subst this
      rw [if_neg (by simp), List.drop_length]
      exact ⟨out, hd, seg, rfl, by omega, hb, hh, by omega, rfl⟩
theorem lift_ok (n : Nat) (hn : 5000 < n) (l : List Rq) (hl : l.length ≤ 100) (hg : ∀ r ∈ l, bad r = false) (hd : Int) (hh : 0 ≤ hd ∧ hd < 256) : G_ringref3_Lift n (l.map rq) hd = some ((go [] hd l).map rq) := by
  obtain ⟨o', h', s', r1, r2, r3, r4, r5, r6⟩ := lift_loop n hn l hl hg n 0 [] hd [] (by omega) (by omega) (by simp) (by simp) (by simp) hh (by simp)
  have r1 : G_ringref3_Lift_L1 n (l.map rq) n 0 [] [] hd = _ := r1
  unfold G_ringref3_Lift
  rw [r1, Option.bind_some]
  simp only
  rw [end_ok n hn h' r4 s' (by omega) r3 o' (by omega), Option.bind_some]
  simp only
  rw [r6]
  simp
/-- how far the head goes -/
def way : Int → List Rq → Int
  | _, [] => 0
  | hd, r :: l => if r.fBarrier = true then way hd l else dist hd r.fSector + way r.fSector l
theorem way_rng : ∀ (l : List Rq) (hd : Int), 0 ≤ way hd l ∧ way hd l ≤ 256 * l.length
  | [], hd => by simp [way]
  | r :: l, hd => by
    have a := way_rng l hd
    have b := way_rng l r.fSector
    have c := @dist_rng hd r.fSector
    rw [way, List.length_cons]
    split <;> omega
theorem way_loop (n : Nat) (l : List Rq) (hl : l.length ≤ 100) (hg : ∀ r ∈ l, bad r = false) : ∀ (k i : Nat) (hd acc : Int), l.length - i < k → i ≤ l.length → (0 ≤ hd ∧ hd < 256) → 0 ≤ acc → acc + 256 * ((l.length - i : Nat) : Int) ≤ 1000000 →
    G_lift_Way_L1 n l k hd acc (i : Int) = some (.x0 (acc + way hd (l.drop i)))
  | 0, i, _, _, h, _, _, _, _ => by omega
  | k + 1, i, hd, acc, h, hi, hh, h0, ha => by
    unfold G_lift_Way_L1
    by_cases h1 : i < l.length
    · rw [if_pos (by omega), getI_nat, List.getElem?_eq_getElem h1, Option.bind_some, wi_succ (by omega), List.drop_eq_getElem_cons h1, way]
      by_cases h2 : l[i].fBarrier = true
      · rw [if_pos h2, if_pos h2]
        exact way_loop n l hl hg k (i + 1) hd acc (by omega) (by omega) hh h0 (by omega)
      · have hgd := good_ok (hg _ (List.getElem_mem h1)) (Bool.eq_false_iff.2 h2)
        have hdr := @dist_rng hd l[i].fSector
        rw [if_neg h2, if_neg h2, far_ok n hh hgd.1, Option.bind_some, wi64 (by omega) (by omega)]
        rw [way_loop n l hl hg k (i + 1) _ _ (by omega) (by omega) hgd.1 (by omega) (by omega), Int.add_assoc]
    · have : i = l.length := by omega
      rw [if_neg (by omega), this, List.drop_length, way]; simp
end li
end Go.Proofs.Ytdimcmpkhbfcnaa.pv
