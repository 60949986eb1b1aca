/- The plain law of MountSays. -/
import Derived.Test.YtnmpnljjaoddhaaLMount
namespace Go.Proofs.Ytnmpnljjaoddhaa.mountSays
open Go.RowKit help pv
set_option linter.all false

theorem all_loop (n : Nat) (l : List M) (a b : Int) (r1 : Int × Int) (r2 r3 : List M × Int) (r4 : List Int × Int) (c : Int) (hl : l.length * 16 ≤ 140737488351232) : ∀ (k i : Nat) (w : List (Fin 2 → Int)), l.length - i < k → i ≤ l.length → w.length = i →
    G_ringlaw5_MountSays_L1 n l a b r1 r2 r3 r4 c k (i : Int) w = some (.x0 (w ++ (l.drop i).map pr))
  | 0, i, w, h, _, _ => by omega
  | k + 1, i, w, h, hi, hw => by
    rw [G_ringlaw5_MountSays_L1]
    by_cases hlt : (i : Int) < (l.length : Int)
    · obtain ⟨x, hx⟩ := get_lt hlt
      rw [if_pos hlt, getI_nat, hx, Option.bind_some, drop_cons hx, wi_succ (by omega)]
      rw [app_le (m := l.length) (by simp; omega) (by omega) (by omega), Option.bind_some, all_loop n l a b r1 r2 r3 r4 c hl k (i + 1) _ (by omega) (by omega) (by simp [hw])]
      rw [List.map_cons, List.append_assoc]; rfl
    · rw [if_neg hlt, drop_end hlt]; simp
theorem seen_loop (n : Nat) (l : List M) (d : Int) (hl : l.length < 100000) (hn : l.length + 40 < n) : ∀ (k i : Nat) (w : List Int), 33 - i < k → 1 ≤ i → i ≤ 33 → w.length ≤ i →
    ∃ r, G_mount_Seen_L1 n l d k (i : Int) w = some (.x0 r) ∧ (∀ r1 r4, ∃ q, q = r ∧ G_ringlaw5_MountSays_L7 n d r1 r4 (l.map pr) k (i : Int) w = some (.x0 q)) ∧ (∀ r1 r4, ∃ q, q = r ∧ G_ringlaw5_MountSays_L12 n d r1 r4 (l.map pr) k (i : Int) w = some (.x0 q)) ∧ r.length ≤ 40
  | 0, i, w, h, _, _, _ => by omega
  | k + 1, i, w, h, h1, hi, hw => by
    by_cases hlt : (i : Int) ≤ 32
    · by_cases e : (downF l (l.length + 1) i).1 = d
      · obtain ⟨r, g1, g2, g3, g4⟩ := seen_loop n l d hl hn k (i + 1) (w ++ [(i : Int)]) (by omega) (by omega) (by omega) (by simp; omega)
        refine ⟨r, ?_, fun r1 r4 => ?_, fun r1 r4 => ?_, g4⟩
        · rw [G_mount_Seen_L1, if_pos hlt, downG n l hl hn, Option.bind_some, if_pos e, app_le (m := 100) (by simp; omega) (by omega) (by omega), Option.bind_some, wi_succ (by omega)]; exact g1
        · rw [G_ringlaw5_MountSays_L7, if_pos hlt, refG n l hl hn, Option.bind_some, if_pos e, app_le (m := 100) (by simp; omega) (by omega) (by omega), Option.bind_some, wi_succ (by omega)]; exact g2 r1 r4
        · rw [G_ringlaw5_MountSays_L12, if_pos hlt, refG n l hl hn, Option.bind_some, if_pos e, app_le (m := 100) (by simp; omega) (by omega) (by omega), Option.bind_some, wi_succ (by omega)]; exact g3 r1 r4
      · obtain ⟨r, g1, g2, g3, g4⟩ := seen_loop n l d hl hn k (i + 1) w (by omega) (by omega) (by omega) (by omega)
        refine ⟨r, ?_, fun r1 r4 => ?_, fun r1 r4 => ?_, g4⟩
        · rw [G_mount_Seen_L1, if_pos hlt, downG n l hl hn, Option.bind_some, if_neg e, wi_succ (by omega)]; exact g1
        · rw [G_ringlaw5_MountSays_L7, if_pos hlt, refG n l hl hn, Option.bind_some, if_neg e, wi_succ (by omega)]; exact g2 r1 r4
        · rw [G_ringlaw5_MountSays_L12, if_pos hlt, refG n l hl hn, Option.bind_some, if_neg e, wi_succ (by omega)]; exact g3 r1 r4
    · refine ⟨w, ?_, fun r1 r4 => ⟨w, rfl, ?_⟩, fun r1 r4 => ⟨w, rfl, ?_⟩, by omega⟩
      · rw [G_mount_Seen_L1, if_neg hlt]
      · rw [G_ringlaw5_MountSays_L7, if_neg hlt]
      · rw [G_ringlaw5_MountSays_L12, if_neg hlt]
theorem concat2 (n : Nat) (a b : List M) (h : a.length + b.length ≤ 100) (hn : 100 < n) : G_slices_Concat_mount_Mount_mount_Mount_h n [a, b] = some (a ++ b) := by
  obtain ⟨m, rfl⟩ : ∃ m, n = m + 3 := ⟨n - 3, by omega⟩
  unfold G_slices_Concat_mount_Mount_mount_Mount_h
  have e0 : ∀ (x y : List M), getI [x, y] 0 = some x := fun x y => rfl
  have e1 : ∀ (x y : List M), getI [x, y] 1 = some y := fun x y => rfl
  have w1 : wi .i64 ((0 : Int) + 1) = 1 := wi64 (by omega) (by omega)
  have w2 : wi .i64 ((1 : Int) + 1) = 2 := wi64 (by omega) (by omega)
  have wa : wi .i64 (0 + (a.length : Int)) = a.length := by rw [wi64 (by omega) (by omega)]; omega
  have wb : wi .i64 ((a.length : Int) + (b.length : Int)) = ((a.length + b.length : Nat) : Int) := by rw [wi64 (by omega) (by omega)]; omega
  have l1 : G_slices_Concat_mount_Mount_mount_Mount_h_L1 (m + 3) [a, b] (m + 3) 0 0 = some (.x0 ((a.length + b.length : Nat) : Int)) := by
    rw [G_slices_Concat_mount_Mount_mount_Mount_h_L1, if_pos (by simp), e0, Option.bind_some, wa, if_neg (by omega), w1,
      G_slices_Concat_mount_Mount_mount_Mount_h_L1, if_pos (by simp), e1, Option.bind_some, wb, if_neg (by omega), w2,
      G_slices_Concat_mount_Mount_mount_Mount_h_L1, if_neg (by simp)]
  rw [l1, Option.bind_some]
  have hg : G_slices_Grow_mount_Mount_mount_Mount_h (m + 3) ((a.length + b.length : Nat) : Int) = some [] := by
    unfold G_slices_Grow_mount_Mount_mount_Mount_h
    have w0 : wi .i64 ((0 : Int) - 0) = 0 := wi64 (by omega) (by omega)
    have w3 : wi .i64 (((a.length + b.length : Nat) : Int) - 0) = ((a.length + b.length : Nat) : Int) := by rw [wi64 (by omega) (by omega)]; omega
    rw [if_neg (by omega), w0, w3]
    by_cases hz : ((a.length + b.length : Nat) : Int) > 0
    · rw [if_pos hz]
      have : appZ 16 (S_mount_Mount.mk 0 0) ((a.length + b.length : Nat) : Int) = some (List.replicate (a.length + b.length) (S_mount_Mount.mk 0 0)) := by
        unfold appZ
        rw [if_pos (by simp only [Int.toNat_natCast, maxLen]; omega), Int.toNat_natCast]
      rw [this, Option.bind_some]
      have : sub (List.replicate (a.length + b.length) (S_mount_Mount.mk 0 0)) 0 0 = some [] := by
        unfold sub
        rw [if_pos (by simp; omega)]; rfl
      rw [this]; rfl
    · rw [if_neg hz]
  simp only
  rw [hg, Option.bind_some]
  have l2 : G_slices_Concat_mount_Mount_mount_Mount_h_L2 (m + 3) [a, b] (m + 3) 0 [] = some (.x0 (a ++ b)) := by
    rw [G_slices_Concat_mount_Mount_mount_Mount_h_L2, if_pos (by simp), e0, Option.bind_some, app_le (m := 100) (by simp; omega) (by omega) (by omega), Option.bind_some, w1,
      G_slices_Concat_mount_Mount_mount_Mount_h_L2, if_pos (by simp), e1, Option.bind_some, app_le (m := 100) (by simp; omega) (by omega) (by omega), Option.bind_some, w2,
      G_slices_Concat_mount_Mount_mount_Mount_h_L2, if_neg (by simp)]
    simp
  rw [l2]; rfl
theorem eqM {n : Nat} {a b : List M} (h : a = b) (hl : a.length < 1000) (hn : 1000 < n) : G_slices_Equal_mount_Mount_mount_Mount n a b = some true := by
  obtain ⟨r, h1, h2⟩ := G_slices_Equal_mount_Mount_mount_Mount_sp (n := n) a b (by omega) (by omega)
  rw [h1, h2.2 h]
theorem eqI {n : Nat} {a b : List Int} (h : a = b) (hl : a.length < 1000) (hn : 1000 < n) : G_slices_Equal_int_int n a b = some true := by
  obtain ⟨r, h1, h2⟩ := G_slices_Equal_int_int_sp (n := n) a b (by omega) (by omega)
  rw [h1, h2.2 h]
theorem law (l : List M) (d at_ root : Int) (hl : okL 16 okS_mount_Mount l) : ∃ n, G_ringlaw5_MountSays n l d at_ root = some true := by
  have hlen : l.length * 16 ≤ 140737488351232 := hl.1
  refine ⟨l.length + 2000, ?_⟩
  generalize hN : l.length + 2000 = n
  have hn : l.length + 40 < n := by omega
  obtain ⟨c, c1, c2, c3, c4⟩ := checkG n l hn
  unfold G_ringlaw5_MountSays
  have hall : ∀ a b r1 r2 r3 r4 c', G_ringlaw5_MountSays_L1 n l a b r1 r2 r3 r4 c' n 0 [] = some (.x0 (l.map pr)) := by
    intro a b r1 r2 r3 r4 c'
    have := all_loop n l a b r1 r2 r3 r4 c' hlen n 0 [] (by omega) (by omega) rfl
    simpa using this
  by_cases h0 : c = 0
  · subst h0
    have h8 := c3 rfl
    have hl' : l.length < 100000 := by omega
    -- what is added
    let x : M := ⟨at_, root⟩
    obtain ⟨e, e1, e2, e3, e4⟩ := checkG n (l ++ [x]) (by simp; omega)
    have hclone : G_slices_Clone_mount_Mount_mount_Mount n l = some l := app_arg hlen (by omega)
    have happ : app 16 l [x] = some (l ++ [x]) := app_le (m := 100) (by simp; omega) (by omega) (by omega)
    have hadd : G_mount_Add n l at_ root = some (if e = 0 then (l ++ [x], 0) else if e = 2 then ([], 6) else ([], e)) := by
      unfold G_mount_Add
      rw [c1, Option.bind_some, if_pos rfl, hclone, Option.bind_some, happ, Option.bind_some, e1, Option.bind_some]
      by_cases q0 : e = 0
      · rw [if_pos q0, if_pos q0]
      · rw [if_neg q0, if_neg q0]
        by_cases q2 : e = 2
        · rw [if_pos q2, if_pos q2]
        · rw [if_neg q2, if_neg q2]
    -- what is taken out
    have hfind := findG n l hl' hn at_
    have hout : G_mount_Out n l at_ = some (if findI (at' at_) l < 0 then ([], 4) else (l.take (findI (at' at_) l).toNat ++ l.drop ((findI (at' at_) l).toNat + 1), 0)) := by
      unfold G_mount_Out
      rw [c1, Option.bind_some, if_pos rfl, hfind, Option.bind_some]
      by_cases hf : findI (at' at_) l < 0
      · rw [if_pos hf, if_pos hf]
      · rw [if_neg hf, if_neg hf]
        obtain ⟨j, m, g1, g2, _⟩ := find_some hf
        have hj := (List.getElem?_eq_some_iff.1 g2).1
        rw [g1, hclone, Option.bind_some, wi_succ (by omega), G_slices_Delete_mount_Mount_mount_Mount_h_sp (by omega) (by omega), Option.bind_some]
        rfl
    -- down, seen
    obtain ⟨r, s1, s2, s3, s4⟩ := seen_loop n l d hl' hn n 1 [] (by omega) (by omega) (by omega) (by simp)
    have s1 : G_mount_Seen_L1 n l d n 1 [] = some (.x0 r) := s1
    have hdown : G_mount_Down n l d = some (if (decide (1 ≤ d) && decide (d ≤ 32)) = true then ((downF l (l.length + 1) d).1, 0) else (0, 1)) := by
      unfold G_mount_Down
      rw [c1, Option.bind_some, if_pos rfl, inode_any, Option.bind_some]
      split
      · rw [downG n l hl' hn]; rfl
      · rfl
    have hseen : G_mount_Seen n l d = some (if (decide (1 ≤ d) && decide (d ≤ 32)) = true then (r, 0) else ([], 1)) := by
      unfold G_mount_Seen
      rw [hdown, Option.bind_some]
      split
      · rw [if_pos rfl, s1]; rfl
      · rfl
    rw [hdown, Option.bind_some, hadd, Option.bind_some, hout, Option.bind_some, hseen, Option.bind_some, hall, Option.bind_some]
    simp only
    rw [c2, Option.bind_some, c1, Option.bind_some, if_pos rfl, if_pos rfl]
    have hidx : G_slices_IndexFunc_mount_Mount_mount_Mount n l (fun (y0 : S_mount_Mount) => G_ringlaw5_MountSays_1 n y0 at_) = some (findI (at' at_) l) :=
      G_slices_IndexFunc_mount_Mount_mount_Mount_sp (at' at_) (by intro y _; rfl) (by omega) (by omega)
    rw [hidx, Option.bind_some]
    generalize hR1 : (if (decide (1 ≤ d) && decide (d ≤ 32)) = true then ((downF l (l.length + 1) d).1, (0 : Int)) else (0, 1)) = R1
    generalize hR4 : (if (decide (1 ≤ d) && decide (d ≤ 32)) = true then (r, (0 : Int)) else ([], 1)) = R4
    generalize hR2 : (if e = 0 then (l ++ [x], (0 : Int)) else if e = 2 then ([], 6) else ([], e)) = R2
    have hc3 : ∀ r1, G_ringlaw5_MountSays_C3 n l d root r1 R2 (if findI (at' at_) l < 0 then ([], 4) else (l.take (findI (at' at_) l).toNat ++ l.drop ((findI (at' at_) l).toNat + 1), 0)) R4 (findI (at' at_) l) at_ (l.map pr) = some (.x1 (l.map pr)) := by
      intro r1
      unfold G_ringlaw5_MountSays_C3
      by_cases hf : findI (at' at_) l < 0
      · rw [if_pos hf, if_pos hf]; simp
      · rw [if_neg hf, if_neg hf]
        obtain ⟨j, m, g1, g2, _⟩ := find_some hf
        have hj := (List.getElem?_eq_some_iff.1 g2).1
        have h1 : sub l 0 (j : Int) = some (l.take j) := by unfold sub; rw [if_pos (by omega)]; simp
        have h2 : sub l (((j + 1 : Nat)) : Int) (l.length : Int) = some (l.drop (j + 1)) := by
          unfold sub; rw [if_pos (by omega)]; simp only [Int.toNat_natCast]; rw [List.take_length]
        rw [g1, if_pos rfl, h1, Option.bind_some, wi_succ (by omega), h2, Option.bind_some, concat2 n _ _ (by simp; omega) (by omega), Option.bind_some, Int.toNat_natCast, eqM rfl (by simp; omega) (by omega)]
        rfl
    rw [hc3, Option.bind_some]
    simp only
    have hcl2 : G_slices_Clone_2_int_2_int n (l.map pr) = some (l.map pr) := app_arg (by rw [List.length_map]; exact hlen) (by omega)
    have happ2 : app 16 (l.map pr) [(fun i : Fin 2 => [at_, root].get i)] = some ((l ++ [x]).map pr) := by
      rw [app_le (m := 100) (by simp; omega) (by omega) (by omega), List.map_append]; rfl
    rw [hcl2, Option.bind_some, happ2, Option.bind_some, e2, Option.bind_some]
    have hEnd7 : (if d < 1 then (G_ringlaw5_MountSays_C5 n R1 R4).bind (fun v => match v with | .x0 v_z293 => some v_z293) else if d > 32 then (G_ringlaw5_MountSays_C6 n R1 R4).bind (fun v => match v with | .x0 v_z305 => some v_z305) else (G_ringlaw5_MountSays_L7 n d R1 R4 (l.map pr) n 1 []).bind (fun v => match v with | .x0 v_z316 => (G_ringlaw5_MountSays_C8 n d R1 R4 (l.map pr) v_z316).bind (fun v => match v with | .x0 v_z336 => some v_z336))) = some true := by
      by_cases hd1 : d < 1
      · rw [if_pos hd1]
        rw [if_neg (by simp; omega)] at hR1 hR4
        subst hR1 hR4; rfl
      · rw [if_neg hd1]
        by_cases hd2 : d > 32
        · rw [if_pos hd2]
          rw [if_neg (by simp; omega)] at hR1 hR4
          subst hR1 hR4; rfl
        · rw [if_neg hd2]
          rw [if_pos (by simp; omega)] at hR1 hR4
          obtain ⟨q, rfl, hq⟩ := s2 R1 R4
          have hq : G_ringlaw5_MountSays_L7 n d R1 R4 (l.map pr) n 1 [] = some (.x0 q) := hq
          rw [hq, Option.bind_some]
          subst hR1 hR4
          simp only [G_ringlaw5_MountSays_C8, if_true]
          rw [refG n l hl' hn, Option.bind_some, if_pos rfl, eqI rfl (by omega) (by omega)]
          rfl
    have hEnd12 : (if d < 1 then (G_ringlaw5_MountSays_C10 n R1 R4).bind (fun v => match v with | .x0 v_z360 => some v_z360) else if d > 32 then (G_ringlaw5_MountSays_C11 n R1 R4).bind (fun v => match v with | .x0 v_z372 => some v_z372) else (G_ringlaw5_MountSays_L12 n d R1 R4 (l.map pr) n 1 []).bind (fun v => match v with | .x0 v_z383 => (G_ringlaw5_MountSays_C13 n d R1 R4 (l.map pr) v_z383).bind (fun v => match v with | .x0 v_z393 => some v_z393))) = some true := by
      by_cases hd1 : d < 1
      · rw [if_pos hd1]
        rw [if_neg (by simp; omega)] at hR1 hR4
        subst hR1 hR4; rfl
      · rw [if_neg hd1]
        by_cases hd2 : d > 32
        · rw [if_pos hd2]
          rw [if_neg (by simp; omega)] at hR1 hR4
          subst hR1 hR4; rfl
        · rw [if_neg hd2]
          rw [if_pos (by simp; omega)] at hR1 hR4
          obtain ⟨q, rfl, hq⟩ := s3 R1 R4
          have hq : G_ringlaw5_MountSays_L12 n d R1 R4 (l.map pr) n 1 [] = some (.x0 q) := hq
          rw [hq, Option.bind_some]
          subst hR1 hR4
          simp only [G_ringlaw5_MountSays_C13, if_true]
          rw [refG n l hl' hn, Option.bind_some, if_pos rfl, eqI rfl (by omega) (by omega)]
          rfl
    by_cases q2 : e = 2
    · rw [if_pos q2]
      have hc4 : G_ringlaw5_MountSays_C4 n l d root R1 R2 R4 (l.map pr) at_ = some (.x0 false) := by
        subst hR2 q2; rfl
      rw [hc4, Option.bind_some]
      simp only [Bool.false_eq_true, if_false]
      exact hEnd7
    · rw [if_neg q2]
      have hc9 : G_ringlaw5_MountSays_C9 n l d root R1 R2 R4 (l.map pr) e at_ = some (.x0 false) := by
        unfold G_ringlaw5_MountSays_C9
        by_cases q0 : e = 0
        · subst hR2
          subst q0
          simp only [if_true]
          rw [hclone, Option.bind_some, happ, Option.bind_some, eqM rfl (by simp; omega) (by omega)]
          rfl
        · subst hR2
          rw [if_neg q0, if_neg q2]
          simp [q0]
      rw [hc9, Option.bind_some]
      simp only [Bool.false_eq_true, if_false]
      exact hEnd12
  · have hd : G_mount_Down n l d = some (0, c) := by unfold G_mount_Down; rw [c1, Option.bind_some, if_neg h0]
    have ha : G_mount_Add n l at_ root = some ([], c) := by unfold G_mount_Add; rw [c1, Option.bind_some, if_neg h0]
    have ho : G_mount_Out n l at_ = some ([], c) := by unfold G_mount_Out; rw [c1, Option.bind_some, if_neg h0]
    have hs : G_mount_Seen n l d = some ([], c) := by unfold G_mount_Seen; rw [hd, Option.bind_some]; simp [h0]
    rw [hd, Option.bind_some, ha, Option.bind_some, ho, Option.bind_some, hs, Option.bind_some, hall, Option.bind_some]
    simp only
    rw [c2, Option.bind_some, c1, Option.bind_some, if_pos rfl, if_neg h0]
    simp only [G_ringlaw5_MountSays_C2, if_true]
    rfl
end Go.Proofs.Ytnmpnljjaoddhaa.mountSays
