/- RmapTells: the law. -/
import Derived.Test.YtdonkhioembhlaaLRm5
namespace Go.Proofs.Ytdonkhioembhlaa.pv
set_option linter.all false
open Go.RowKit help
namespace rm
theorem atG_bd {n : Nat} (hn : 1100 < n) {g : Gr} {l : List Pr} (G : GR g l) (h : okR l) (s q : Int) : 0 ≤ atG g s q ∧ atG g s q ≤ 64 := by
  unfold atG
  by_cases hr : pg s q
  · rw [if_pos hr]
    rcases find_at hn G h s q hr with ⟨m, hm, h1, h2, h3, h4, h5, h6⟩ | ⟨h1, h2, h3⟩ <;> omega
  · rw [if_neg hr]; omega
theorem l10_loop (n : Nat) (to : Int) (a1 : List Pr × Int) (a2 : List Pr × Int × Int) (a3 : List Pr × Int) (a4 : Int × Int) (a5 : List Pr × Int × Int) (at_ who whe mov : Int) (b1 b2 : List Pr) (b3 : Int) (l : List Pr) (hl : l.length ≤ 1024) (p : Pr) (g : Gr) : ∀ (k i : Nat), l.length - i < k → i ≤ l.length →
    G_ringlaw2_RmapTells_L10 n to a1 a2 a3 a4 a5 at_ who whe mov b1 b2 b3 l p g k (i : Int) (if who = 0 then (l.take i).filter (fun x => x.fFrame == p.fFrame) else []) = some (.x0 (if who = 0 then l.filter (fun x => x.fFrame == p.fFrame) else []))
  | 0, i, h, _ => by omega
  | k + 1, i, h, hi => by
    rw [G_ringlaw2_RmapTells_L10]
    by_cases h1 : i < l.length
    · have ht : l.take (i + 1) = l.take i ++ [l[i]] := List.take_succ_eq_append_getElem h1
      have ih := l10_loop n to a1 a2 a3 a4 a5 at_ who whe mov b1 b2 b3 l hl p g k (i + 1) (by omega) (by omega)
      rw [if_pos (by omega)]
      unfold G_ringlaw2_RmapTells_C9
      rw [getI_nat, List.getElem?_eq_getElem h1, Option.bind_some]
      by_cases hw : who = 0
      · have hlen := List.length_filter_le (fun x : Pr => x.fFrame == p.fFrame) (l.take i)
        rw [List.length_take] at hlen
        rw [if_pos hw, ht, List.filter_append] at ih
        rw [if_pos hw, if_pos hw]
        by_cases e : l[i].fFrame = p.fFrame
        · have ef : (l[i].fFrame == p.fFrame) = true := by simpa using e
          rw [List.filter_cons, if_pos ef, List.filter_nil] at ih
          rw [if_pos e, app24 (Nat.le_trans (Nat.add_le_add_right hlen 1) (by omega)), Option.bind_some, Option.bind_some]
          simp only
          rw [wi_succ (by omega)]; exact ih
        · have ef : ¬ (l[i].fFrame == p.fFrame) = true := by simpa using e
          rw [List.filter_cons, if_neg ef, List.filter_nil, List.append_nil] at ih
          rw [if_neg e, Option.bind_some]
          simp only
          rw [wi_succ (by omega)]; exact ih
      · rw [if_neg hw] at ih
        rw [if_neg hw, if_neg hw, Option.bind_some]
        simp only
        rw [wi_succ (by omega)]; exact ih
    · rw [if_neg (by omega)]
      have : i = l.length := by omega
      subst this
      rw [List.take_length]
theorem law (n : Nat) (hn : 100000 < n) (S : Sorts n) (l : List Pr) (p : Pr) (to : Int) : G_ringlaw2_RmapTells n l p to = some true := by
  obtain ⟨e, e1, e2, e3⟩ := check_any n (by omega) l
  unfold G_ringlaw2_RmapTells
  by_cases h0 : e = 0
  · subst h0
    have h := e3 rfl
    have hl := h.len
    obtain ⟨g, hg, G⟩ := grid_any n (by omega) l h
    obtain ⟨a, x1, A1, A2, A3, A4, A5⟩ := put_fact n (by omega) l g p e1 h G
    obtain ⟨b, f, x2, B1, B2, B3, B4, B5⟩ := out_fact n (by omega) l g p.fSpace p.fPage e1 h G
    obtain ⟨c, x3, C1, C2, C3, C4, C5⟩ := who_fact n (by omega) l p.fFrame e1 h
    obtain ⟨d, x4, D1, D3, D4, D5⟩ := where_fact n (by omega) l g p.fSpace p.fPage e1 h G
    obtain ⟨m, cnt, x5, M1, M2, M3, M4, M5⟩ := move_fact n (by omega) S l g p.fFrame to e1 h G
    have hbd := atG_bd (n := n) (by omega) G h p.fSpace p.fPage
    have sm : ∀ r : List Pr, r.length ≤ 1025 → G_ringref2_PairSame n r r = some true := fun r hr => same_any n hn r (by omega)
    have w1 : wi .i64 (atG g p.fSpace p.fPage - 1) = atG g p.fSpace p.fPage - 1 := wi64 (by omega) (by omega)
    rw [A1, Option.bind_some, B1, Option.bind_some, C1, Option.bind_some, D1, Option.bind_some, M1, Option.bind_some, e2, Option.bind_some, e1, Option.bind_some, if_pos rfl, if_pos rfl, hg, Option.bind_some, page_any, Option.bind_some]
    have c2 : G_ringlaw2_RmapTells_C2 n l to (a, x1) (b, f, x2) (c, x3) (d, x4) (m, cnt, x5) (decide (pg p.fSpace p.fPage)) p g = some (.x0 (atG g p.fSpace p.fPage)) := by
      unfold G_ringlaw2_RmapTells_C2 atG
      by_cases hr : pg p.fSpace p.fPage
      · have hs : 0 ≤ p.fSpace ∧ p.fSpace < 17 := by omega
        have hq : 0 ≤ p.fPage ∧ p.fPage < 64 := by omega
        obtain ⟨row, g1, g2, _⟩ := grid_get g hs hq
        rw [decide_eq_true hr, if_pos rfl, if_pos hs, if_pos hq, g1, Option.bind_some, g2, Option.bind_some, if_pos hr]
      · rw [decide_eq_false hr, if_neg (by simp), if_neg hr]
    rw [c2, Option.bind_some]
    simp only
    rw [pairIs_any, Option.bind_some]
    have c3 : G_ringlaw2_RmapTells_C3 n l to (a, x1) (b, f, x2) (c, x3) (d, x4) (m, cnt, x5) (decide (pg p.fSpace p.fPage)) (atG g p.fSpace p.fPage) (decide (rg p)) p g = some (.x0 x1) := by
      unfold G_ringlaw2_RmapTells_C3
      by_cases hr : rg p
      · rw [if_pos hr] at A3
        rw [decide_eq_true hr, if_pos rfl]
        by_cases k : atG g p.fSpace p.fPage > 0
        · rw [if_pos k] at A3; rw [if_pos k, A3]
        · rw [if_neg k] at A3; rw [if_neg k, A3]
      · rw [if_neg hr] at A3
        rw [decide_eq_false hr, if_neg (by simp), A3]
    rw [c3, Option.bind_some]
    simp only
    have c4 : G_ringlaw2_RmapTells_C4 n l to (a, x1) (b, f, x2) (c, x3) (d, x4) (m, cnt, x5) (atG g p.fSpace p.fPage) x1 (decide (pg p.fSpace p.fPage)) p g = some (.x0 x2 x4) := by
      unfold G_ringlaw2_RmapTells_C4
      by_cases hr : pg p.fSpace p.fPage
      · rw [if_pos hr] at B3 D3
        rw [decide_eq_true hr, if_pos rfl]
        by_cases k : atG g p.fSpace p.fPage = 0
        · rw [if_pos k] at B3; rw [if_pos k, B3, D3]
        · rw [if_neg k] at B3; rw [if_neg k, B3, D3]
      · rw [if_neg hr] at B3 D3
        rw [decide_eq_false hr, if_neg (by simp), B3, D3]
    rw [c4, Option.bind_some]
    simp only
    rw [in_any, Option.bind_some]
    have c5 : G_ringlaw2_RmapTells_C5 n l to (a, x1) (b, f, x2) (c, x3) (d, x4) (m, cnt, x5) (atG g p.fSpace p.fPage) x1 x2 x4 (decide (0 ≤ p.fFrame ∧ p.fFrame ≤ 63)) p g = some (.x0 x3 x5) := by
      unfold G_ringlaw2_RmapTells_C5
      by_cases hr : 0 ≤ p.fFrame ∧ p.fFrame ≤ 63
      · rw [if_pos hr] at C3 M3
        rw [decide_eq_true hr, if_pos rfl, in_any, Option.bind_some]
        by_cases k : 0 ≤ to ∧ to ≤ 63
        · rw [if_pos k] at M3; rw [decide_eq_true k, if_pos rfl, C3, M3]
        · rw [if_neg k] at M3; rw [decide_eq_false k, if_neg (by simp), C3, M3]
      · rw [if_neg hr] at C3 M3
        rw [decide_eq_false hr, if_neg (by simp), C3, M3]
    rw [c5, Option.bind_some]
    simp only
    have c6 : G_ringlaw2_RmapTells_C6 n l to (a, x1) (b, f, x2) (c, x3) (d, x4) (m, cnt, x5) (atG g p.fSpace p.fPage) x1 x2 x3 x4 x5 p g = some (.x0 false) := by
      unfold G_ringlaw2_RmapTells_C6
      simp
    rw [c6, Option.bind_some]
    simp only [Bool.false_eq_true, if_false]
    have c7 : G_ringlaw2_RmapTells_C7 n l to (a, x1) (b, f, x2) (c, x3) (d, x4) (m, cnt, x5) (atG g p.fSpace p.fPage) x2 x3 x4 x5 x1 p g = some (.x0 a) := by
      unfold G_ringlaw2_RmapTells_C7
      by_cases k : x1 = 0
      · obtain ⟨hr, hh⟩ := A5 k
        have hs : 0 ≤ p.fSpace ∧ p.fSpace < 17 := by omega
        have hq : 0 ≤ p.fPage ∧ p.fPage < 64 := by omega
        obtain ⟨row, g1, g2, g3⟩ := grid_get g hs hq
        have wf : wi .i64 (p.fFrame + 1) = p.fFrame + 1 := wi64 (by omega) (by omega)
        rw [if_pos k, if_pos hs, if_pos hq, g1, Option.bind_some, g2, Option.bind_some, wf, of_any n (by omega), Option.bind_some, ← hh _ (fun s q h1 h2 => g3 _ s q h1 h2)]
      · rw [if_neg k, A4 k]
    rw [c7, Option.bind_some]
    simp only
    have c8 : G_ringlaw2_RmapTells_C8 n l to (a, x1) (b, f, x2) (c, x3) (d, x4) (m, cnt, x5) (atG g p.fSpace p.fPage) x3 x4 x5 a x2 p g = some (.x0 b f) := by
      unfold G_ringlaw2_RmapTells_C8
      by_cases k : x2 = 0
      · obtain ⟨hr, hf, hh⟩ := B5 k
        have hs : 0 ≤ p.fSpace ∧ p.fSpace < 17 := by omega
        have hq : 0 ≤ p.fPage ∧ p.fPage < 64 := by omega
        obtain ⟨row, g1, g2, g3⟩ := grid_get g hs hq
        rw [if_pos k, if_pos hs, if_pos hq, g1, Option.bind_some, g2, Option.bind_some, of_any n (by omega), Option.bind_some, ← hh _ (fun s q h1 h2 => g3 _ s q h1 h2), w1, ← hf]
      · rw [if_neg k, (B4 k).1, (B4 k).2]
    rw [c8, Option.bind_some]
    simp only
    have hl10 := l10_loop n to (a, x1) (b, f, x2) (c, x3) (d, x4) (m, cnt, x5) (atG g p.fSpace p.fPage) x3 x4 x5 a b f l hl p g n 0 (by omega) (by omega)
    have hz : (if x3 = 0 then (l.take 0).filter (fun x => x.fFrame == p.fFrame) else []) = ([] : List Pr) := by split <;> simp
    have hz2 : (if x3 = 0 then l.filter (fun x => x.fFrame == p.fFrame) else []) = c := by
      by_cases k : x3 = 0
      · rw [if_pos k, C5 k]
      · rw [if_neg k, C4 k]
    rw [hz, hz2] at hl10
    have hl10 : G_ringlaw2_RmapTells_L10 n to (a, x1) (b, f, x2) (c, x3) (d, x4) (m, cnt, x5) (atG g p.fSpace p.fPage) x3 x4 x5 a b f l p g n 0 [] = _ := hl10
    rw [hl10, Option.bind_some]
    simp only
    have c11 : G_ringlaw2_RmapTells_C11 n to (a, x1) (b, f, x2) (c, x3) (d, x4) (m, cnt, x5) (atG g p.fSpace p.fPage) x5 a b f x4 p g c = some (.x0 d c) := by
      unfold G_ringlaw2_RmapTells_C11
      by_cases k : x4 = 0
      · rw [if_pos k, w1, ← D5 k]
      · rw [if_neg k, D4 k]
    rw [c11, Option.bind_some]
    simp only
    by_cases k : x5 = 0
    · obtain ⟨hf, hto, hcnt, hh⟩ := M5 k
      obtain ⟨B', f1, f2⟩ := l14_loop n (by omega) to (a, x1) (b, f, x2) (c, x3) (d, x4) (m, cnt, x5) a b f d p hf hto g c n 0 g (by omega) (by omega) (fun s q hs hq => by unfold mg; rw [if_neg (by omega)])
      have f1 : G_ringlaw2_RmapTells_L14 n to (a, x1) (b, f, x2) (c, x3) (d, x4) (m, cnt, x5) a b f d p n 0 0 c g = _ := f1
      rw [if_pos k, f1, Option.bind_some]
      simp only
      rw [of_any n (by omega), Option.bind_some, ← hh B' (fun s q hs hq => by
        rw [f2 s q hs hq]; unfold mg
        by_cases e : cell g s q = p.fFrame + 1
        · rw [if_pos e, if_pos ⟨by omega, e⟩]
        · rw [if_neg e, if_neg (fun k => e k.2)])]
      unfold G_ringlaw2_RmapTells_C15
      simp only [sm a A2, sm b B2, sm c C2, sm m M2, Option.bind_some, if_true, hcnt, beq_self_eq_true]
    · have hm := M4 k
      rw [if_neg k]
      unfold G_ringlaw2_RmapTells_C16
      simp only [sm a A2, sm b B2, sm c C2, hm.1, hm.2, sm [] (by simp), Option.bind_some, if_true, beq_self_eq_true]
  · rw [put_bad n l p e h0 (ask_bad n l _ e h0 e1), Option.bind_some, out_bad n l _ _ e h0 (ask_bad n l _ e h0 e1), Option.bind_some, who_bad n l _ e h0 (ask_bad n l _ e h0 e1), Option.bind_some, where_bad n l _ _ e h0 (ask_bad n l _ e h0 e1), Option.bind_some, move_bad1 n l _ _ e h0 (ask_bad n l _ e h0 e1), Option.bind_some, e2, Option.bind_some, e1, Option.bind_some, if_pos rfl, if_neg h0]
    unfold G_ringlaw2_RmapTells_C1
    simp
    decide
end rm
end Go.Proofs.Ytdonkhioembhlaa.pv
