/- TurnPlays: what is played, by the program and by the document. -/
import Derived.Test.YtiaebagjcbkkgaaGuTurnPlays
import Derived.Test.YtiaebagjcbkkgaaSpTp
namespace Go.Proofs.Ytiaebagjcbkkgaa.pv
set_option linter.all false
open Go.RowKit help
namespace tp
abbrev D := S_ringref5_Do
abbrev E := S_turn_Do
def td (d : D) : E := ⟨d.fKind, d.fCell, d.fBy⟩
/-- a limit of all lengths -/
def small {α : Type} (l : List α) : Prop := l.length ≤ 1048575
theorem app_24 {α : Type} {xs ys : List α} (h : xs.length + ys.length ≤ 4194304) : app 24 xs ys = some (xs ++ ys) := app_le h (by omega) (by omega)
theorem app_4 {xs ys : List Int} (h : xs.length + ys.length ≤ 4194304) : app 4 xs ys = some (xs ++ ys) := app_le h (by omega) (by omega)
theorem plays_any (k : Nat) : G_ringlaw5_plays (k + 10) = some true := by kernel_rfl
theorem copy1 (n : Nat) (cells : List Int) (progs : List (List D)) (order : List Int) (x : Int) (p : List D) (hp : small p) (out : List (List E)) : ∀ (k i : Nat), p.length - i < k → i ≤ p.length →
    G_ringlaw5_TurnPlays_L1 n cells progs order x p k (i : Int) out ((p.take i).map td) = some (.x0 out (p.map td))
  | 0, i, h, _ => by omega
  | k + 1, i, h, hi => by
    unfold small at hp
    rw [G_ringlaw5_TurnPlays_L1]
    by_cases h1 : i < p.length
    · have e : (p.take i).map td ++ [S_turn_Do.mk p[i].fKind p[i].fCell p[i].fBy] = (p.take (i + 1)).map td := by
        rw [List.take_succ_eq_append_getElem h1, List.map_append]; rfl
      rw [if_pos (by omega), getI_nat, List.getElem?_eq_getElem h1, Option.bind_some, app_24 (by simp; omega), Option.bind_some, wi_succ (by omega), e]
      exact copy1 n cells progs order x p hp out k (i + 1) (by omega) (by omega)
    · rw [if_neg (by omega), List.take_of_length_le (by omega)]
theorem copy2 (n : Nat) (hn : 5000000 ≤ n) (cells : List Int) (progs : List (List D)) (order : List Int) (hl : small progs) (hp : ∀ p ∈ progs, small p) : ∀ (k i : Nat), progs.length - i < k → i ≤ progs.length →
    G_ringlaw5_TurnPlays_L2 n cells progs order k (i : Int) ((progs.take i).map (List.map td)) = some (.x0 (progs.map (List.map td)))
  | 0, i, h, _ => by omega
  | k + 1, i, h, hi => by
    have hl' := hl
    unfold small at hl'
    rw [G_ringlaw5_TurnPlays_L2]
    by_cases h1 : i < progs.length
    · have hpi := hp progs[i] (List.getElem_mem h1)
      have hpi' := hpi
      unfold small at hpi'
      have c := copy1 n cells progs order (i : Int) progs[i] hpi ((progs.take i).map (List.map td)) n 0 (by omega) (by omega)
      have c : G_ringlaw5_TurnPlays_L1 n cells progs order (i : Int) progs[i] n 0 ((progs.take i).map (List.map td)) [] = _ := c
      have e : (progs.take i).map (List.map td) ++ [progs[i].map td] = (progs.take (i + 1)).map (List.map td) := by
        rw [List.take_succ_eq_append_getElem h1, List.map_append]; rfl
      rw [if_pos (by omega), getI_nat, List.getElem?_eq_getElem h1, Option.bind_some, c, Option.bind_some]
      simp only
      rw [app_24 (by simp; omega), Option.bind_some, wi_succ (by omega), e]
      exact copy2 n hn cells progs order hl hp k (i + 1) (by omega) (by omega)
    · rw [if_neg (by omega), List.take_of_length_le (by omega)]
/-! what is wrong with steps -/
def bad (m : Int) (d : D) : Bool := decide (d.fKind < 1 ∨ d.fKind > 6 ∨ d.fCell < 0 ∨ d.fCell ≥ m)
theorem bad1 (n : Nat) (cells : List Int) (ps : List (List E)) (order : List Int) (x : Int) (y : List E) (z : Int) (d : D) : G_turn_Play_C1 n cells ps order x y z (td d) = some (.x0 (bad (cells.length : Int) d)) := by
  unfold G_turn_Play_C1 bad td
  simp only
  by_cases a1 : d.fKind < 1
  · rw [if_pos a1, decide_eq_true (by omega)]
  by_cases a2 : d.fKind > 6
  · rw [if_neg a1, if_pos a2, decide_eq_true (by omega)]
  by_cases a3 : d.fCell < 0
  · rw [if_neg a1, if_neg a2, if_pos a3, decide_eq_true (by omega)]
  rw [if_neg a1, if_neg a2, if_neg a3]
  congr 2
  rw [Bool.eq_iff_iff]; simp only [decide_eq_true_eq]; omega
theorem bad2 (n : Nat) (cells : List Int) (ps : List (List D)) (order : List Int) (f : List D) (x : Int) (d : D) (w : List D) : G_ringref5_PlayOf_C1 n cells ps order f x d w = some (.x0 (bad (cells.length : Int) d) w) := by
  unfold G_ringref5_PlayOf_C1 bad
  by_cases a1 : d.fKind < 1
  · rw [if_pos a1, decide_eq_true (by omega)]
  by_cases a2 : d.fKind > 6
  · rw [if_neg a1, if_pos a2, decide_eq_true (by omega)]
  by_cases a3 : d.fCell < 0
  · rw [if_neg a1, if_neg a2, if_pos a3, decide_eq_true (by omega)]
  rw [if_neg a1, if_neg a2, if_neg a3]
  congr 2
  rw [Bool.eq_iff_iff]; simp only [decide_eq_true_eq]; omega
theorem chk1 (n : Nat) (cells : List Int) (ps : List (List E)) (order : List Int) (x : Int) (p : List D) (hp : small p) : ∀ (k i : Nat), p.length - i < k → i ≤ p.length →
    G_turn_Play_L2 n cells ps order x (p.map td) k (i : Int) = some (if (p.drop i).any (bad (cells.length : Int)) then .x0 1 else .x1)
  | 0, i, h, _ => by omega
  | k + 1, i, h, hi => by
    unfold small at hp
    rw [G_turn_Play_L2]
    by_cases h1 : i < p.length
    · have hm : (p.map td)[i]? = some (td p[i]) := by rw [List.getElem?_map, List.getElem?_eq_getElem h1]; rfl
      rw [if_pos (by simp; omega), getI_nat, hm, Option.bind_some, bad1, Option.bind_some, drop_cons (List.getElem?_eq_getElem h1), List.any_cons]
      simp only
      cases hb : bad (cells.length : Int) p[i] with
      | true => rfl
      | false =>
        rw [wi_succ (by omega), chk1 n cells ps order x p hp k (i + 1) (by omega) (by omega)]; rfl
    · rw [if_neg (by simp; omega), List.drop_eq_nil_of_le (by omega)]; rfl
theorem chk2 (n : Nat) (hn : 5000000 ≤ n) (cells : List Int) (progs : List (List D)) (order : List Int) (hl : progs.length ≤ 4) (hp : ∀ p ∈ progs, small p) : ∀ (k i : Nat), progs.length - i < k → i ≤ progs.length →
    G_turn_Play_L3 n cells (progs.map (List.map td)) order k (i : Int) = some (if (progs.drop i).any (fun p => p.any (bad (cells.length : Int))) then .x0 1 else .x1)
  | 0, i, h, _ => by omega
  | k + 1, i, h, hi => by
    rw [G_turn_Play_L3]
    by_cases h1 : i < progs.length
    · have hpi := hp progs[i] (List.getElem_mem h1)
      have hpi' := hpi
      unfold small at hpi'
      have hm : (progs.map (List.map td))[i]? = some (progs[i].map td) := by rw [List.getElem?_map, List.getElem?_eq_getElem h1]; rfl
      have c := chk1 n cells (progs.map (List.map td)) order (i : Int) progs[i] hpi n 0 (by omega) (by omega)
      have c : G_turn_Play_L2 n cells (progs.map (List.map td)) order (i : Int) (progs[i].map td) n 0 = _ := c
      rw [if_pos (by simp; omega), getI_nat, hm, Option.bind_some, c, Option.bind_some, drop_cons (List.getElem?_eq_getElem h1), List.any_cons, List.drop_zero]
      cases hb : progs[i].any (bad (cells.length : Int)) with
      | true => rfl
      | false =>
        simp only [Bool.false_eq_true, if_false, Bool.false_or]
        rw [wi_succ (by omega)]
        exact chk2 n hn cells progs order hl hp k (i + 1) (by omega) (by omega)
    · rw [if_neg (by simp; omega), List.drop_eq_nil_of_le (by omega)]; rfl
/-! all steps in one row -/
def len2 : List (List D) → Nat
  | [] => 0
  | p :: l => p.length + len2 l
theorem len2_flat : ∀ (l : List (List D)), l.flatten.length = len2 l
  | [] => rfl
  | p :: l => by rw [List.flatten_cons, List.length_append, len2_flat l]; rfl
theorem len2_app : ∀ (a b : List (List D)), len2 (a ++ b) = len2 a + len2 b
  | [], b => by simp [len2]
  | p :: a, b => by simp only [List.cons_append, len2, len2_app a b]; omega
theorem len2_le : ∀ (l : List (List D)), (∀ p ∈ l, small p) → len2 l ≤ l.length * 1048575
  | [], _ => by simp [len2]
  | p :: l, h => by
    have h1 := h p (by simp)
    unfold small at h1
    have h2 := len2_le l (fun q hq => h q (by simp [hq]))
    simp only [len2, List.length_cons]
    omega
theorem len2_take (l : List (List D)) (i : Nat) : len2 (l.take i) ≤ len2 l := by
  have := len2_app (l.take i) (l.drop i)
  rw [List.take_append_drop] at this
  omega
theorem size_loop (n : Nat) (l : List (List D)) (hl : l.length ≤ 4) (ht : len2 l ≤ 4194304) : ∀ (k i : Nat), l.length - i < k → i ≤ l.length →
    G_slices_Concat_ringref5_Do_ringref5_Do_h_L1 n l k ((len2 (l.take i) : Nat) : Int) (i : Int) = some (.x0 ((len2 l : Nat) : Int))
  | 0, i, h, _ => by omega
  | k + 1, i, h, hi => by
    rw [G_slices_Concat_ringref5_Do_ringref5_Do_h_L1]
    by_cases h1 : i < l.length
    · have e : len2 (l.take (i + 1)) = len2 (l.take i) + l[i].length := by rw [List.take_succ_eq_append_getElem h1, len2_app]; simp [len2]
      have hb := len2_take l (i + 1)
      have w : wi .i64 (((len2 (l.take i) : Nat) : Int) + (l[i].length : Int)) = ((len2 (l.take (i + 1)) : Nat) : Int) := by rw [wi64 (by omega) (by omega)]; omega
      rw [if_pos (by omega), getI_nat, List.getElem?_eq_getElem h1, Option.bind_some, w, if_neg (by omega), wi_succ (by omega)]
      exact size_loop n l hl ht k (i + 1) (by omega) (by omega)
    · rw [if_neg (by omega), List.take_of_length_le (by omega)]
theorem cat_loop (n : Nat) (l : List (List D)) (hl : l.length ≤ 4) (ht : len2 l ≤ 4194304) : ∀ (k i : Nat), l.length - i < k → i ≤ l.length →
    G_slices_Concat_ringref5_Do_ringref5_Do_h_L2 n l k (i : Int) (l.take i).flatten = some (.x0 l.flatten)
  | 0, i, h, _ => by omega
  | k + 1, i, h, hi => by
    rw [G_slices_Concat_ringref5_Do_ringref5_Do_h_L2]
    by_cases h1 : i < l.length
    · have hb := len2_take l (i + 1)
      have e : (l.take i).flatten ++ l[i] = (l.take (i + 1)).flatten := by rw [List.take_succ_eq_append_getElem h1, List.flatten_append]; simp
      have el : (l.take i).flatten.length + l[i].length = len2 (l.take (i + 1)) := by rw [← len2_flat, ← e, List.length_append]
      rw [if_pos (by omega), getI_nat, List.getElem?_eq_getElem h1, Option.bind_some, app_24 (by omega), Option.bind_some, wi_succ (by omega), e]
      exact cat_loop n l hl ht k (i + 1) (by omega) (by omega)
    · rw [if_neg (by omega), List.take_of_length_le (by omega)]
theorem grow_any (n m : Nat) (hm : m ≤ 4194304) : G_slices_Grow_ringref5_Do_ringref5_Do_h n (m : Int) = some [] := by
  unfold G_slices_Grow_ringref5_Do_ringref5_Do_h
  have w : wi .i64 ((m : Int) - wi .i64 (0 - 0)) = (m : Int) := by
    have : wi .i64 (0 - 0) = 0 := rfl
    rw [this, wi64 (by omega) (by omega)]; omega
  rw [if_neg (by omega), w]
  by_cases h0 : (m : Int) > 0
  · rw [if_pos h0]
    have : appZ 24 (S_ringref5_Do.mk 0 0 0) (m : Int) = some (List.replicate m (S_ringref5_Do.mk 0 0 0)) := by
      unfold appZ maxLen
      rw [if_pos ⟨by omega, by omega, by omega⟩]
      simp
    rw [this, Option.bind_some]
    have : sub (List.replicate m (S_ringref5_Do.mk 0 0 0)) 0 0 = some [] := by unfold sub; rw [if_pos ⟨by omega, by omega, by omega⟩]; simp
    rw [this]; rfl
  · rw [if_neg h0]
theorem concat_any (n : Nat) (hn : 5000000 ≤ n) (l : List (List D)) (hl : l.length ≤ 4) (ht : len2 l ≤ 4194304) : G_slices_Concat_ringref5_Do_ringref5_Do_h n l = some l.flatten := by
  unfold G_slices_Concat_ringref5_Do_ringref5_Do_h
  have h1 := size_loop n l hl ht n 0 (by omega) (by omega)
  have h1 : G_slices_Concat_ringref5_Do_ringref5_Do_h_L1 n l n 0 0 = _ := h1
  have h2 := cat_loop n l hl ht n 0 (by omega) (by omega)
  have h2 : G_slices_Concat_ringref5_Do_ringref5_Do_h_L2 n l n 0 [] = _ := h2
  rw [h1, Option.bind_some]
  simp only
  rw [grow_any n _ ht, Option.bind_some, h2]; rfl
theorem chk3 (n : Nat) (cells : List Int) (progs : List (List D)) (order : List Int) (f : List D) (hf : f.length ≤ 4194304) : ∀ (k i : Nat), f.length - i < k → i ≤ f.length →
    G_ringref5_PlayOf_L2 n cells progs order f k (i : Int) f = some (if (f.drop i).any (bad (cells.length : Int)) then .x0 1 else .x1)
  | 0, i, h, _ => by omega
  | k + 1, i, h, hi => by
    rw [G_ringref5_PlayOf_L2]
    by_cases h1 : i < f.length
    · rw [if_pos (by omega), if_pos ⟨by omega, by simpa using h1⟩, Int.toNat_natCast, List.getElem?_eq_getElem h1, Option.bind_some, bad2, Option.bind_some, drop_cons (List.getElem?_eq_getElem h1), List.any_cons]
      simp only
      cases hb : bad (cells.length : Int) f[i] with
      | true => rfl
      | false =>
        rw [wi_succ (by omega), chk3 n cells progs order f hf k (i + 1) (by omega) (by omega)]; rfl
    · rw [if_neg (by omega), List.drop_eq_nil_of_le (by omega)]; rfl
theorem any_flat (p : D → Bool) : ∀ l : List (List D), l.flatten.any p = l.any (fun q => q.any p)
  | [] => rfl
  | a :: l => by rw [List.flatten_cons, List.any_append, List.any_cons, any_flat p l]
/-! one step -/
/-- the cell and the hand then -/
def eff (c h : Int) (d : D) : Int × Int :=
  if d.fKind = 1 then (c, c) else if d.fKind = 2 then (h, h) else if d.fKind = 3 then (c, wi .u32 (h + wi .u32 d.fBy)) else if d.fKind = 4 then (wi .u32 (c + wi .u32 d.fBy), c)
  else if d.fKind = 5 then (h, c) else if c = h then (wi .u32 d.fBy, c) else (c, c)
theorem set_same {α : Type} (l : List α) (i : Nat) (x : α) (h : l[i]? = some x) : l.set i x = l := by
  obtain ⟨h1, rfl⟩ := List.getElem?_eq_some_iff.1 h
  exact List.set_getElem_self h1
theorem step_any (n : Nat) (out hands : List Int) (i q : Nat) (c h : Int) (d : D) (hq : d.fCell = (q : Int)) (hc : out[q]? = some c) (hh : hands[i]? = some h) (hb : bad (out.length : Int) d = false) :
    G_turn_step_h n out hands i (td d) = some (out.set q (eff c h d).1, hands.set i (eff c h d).2) := by
  unfold bad at hb
  simp only [decide_eq_false_iff_not] at hb
  have hql : q < out.length := by omega
  unfold G_turn_step_h G_turn_step_h_C1
  have e1 : (td d).fCell = (q : Int) := hq
  have e2 : (td d).fKind = d.fKind := rfl
  have e3 : (td d).fBy = d.fBy := rfl
  rw [e1, e2, e3]
  simp only [Int.toNat_natCast]
  rw [if_pos ⟨by omega, hql⟩, hc, hh]
  simp only [Option.bind_some]
  unfold eff
  by_cases k1 : d.fKind = 1
  · rw [if_pos k1, if_pos k1, Option.bind_some]
    simp only
    rw [set_same out q c hc]
  by_cases k2 : d.fKind = 2
  · rw [if_neg k1, if_pos k2, if_neg k1, if_pos k2, Option.bind_some]
    simp only
    rw [set_same hands i h hh]
  by_cases k3 : d.fKind = 3
  · rw [if_neg k1, if_neg k2, if_pos k3, if_neg k1, if_neg k2, if_pos k3, Option.bind_some]
    simp only
    rw [set_same out q c hc]
  by_cases k4 : d.fKind = 4
  · rw [if_neg k1, if_neg k2, if_neg k3, if_pos k4, if_neg k1, if_neg k2, if_neg k3, if_pos k4, Option.bind_some]
  by_cases k5 : d.fKind = 5
  · rw [if_neg k1, if_neg k2, if_neg k3, if_neg k4, if_pos k5, if_neg k1, if_neg k2, if_neg k3, if_neg k4, if_pos k5, Option.bind_some]
  · have k6 : d.fKind = 6 := by omega
    rw [if_neg k1, if_neg k2, if_neg k3, if_neg k4, if_neg k5, if_pos k6, if_neg k1, if_neg k2, if_neg k3, if_neg k4, if_neg k5]
    by_cases e : c = h
    · rw [if_pos e, if_pos e, Option.bind_some]
    · rw [if_neg e, if_neg e, Option.bind_some]
      simp only
      rw [set_same out q c hc]
theorem rest_any (n : Nat) (x : Int) (hx : -9223372036854775808 ≤ x ∧ x ≤ 9223372036854775807) : ∃ r, G_ringref5_Rest n x 4294967296 = some r ∧ wi .u32 r = wi .u32 x := by
  unfold G_ringref5_Rest remI
  rw [if_pos (by decide)]
  have h1 : x.tmod 4294967296 = if 0 ≤ x then x % 4294967296 else -((-x) % 4294967296) := by
    by_cases h : 0 ≤ x
    · rw [if_pos h, Int.tmod_eq_emod_of_nonneg h]
    · rw [if_neg h]
      have := Int.neg_tmod (-x) 4294967296
      rw [Int.neg_neg] at this
      rw [this, Int.tmod_eq_emod_of_nonneg (by omega)]
  by_cases h : x.tmod 4294967296 < 0
  · rw [if_pos h]
    refine ⟨_, rfl, ?_⟩
    rw [h1] at h ⊢
    simp only [wi, IntKind.wrap_u32, IntKind.wrap_i64]
    split at h <;> omega
  · rw [if_neg h]
    refine ⟨_, rfl, ?_⟩
    rw [h1] at h ⊢
    simp only [wi, IntKind.wrap_u32]
    split at h <;> omega
theorem ref_step (n : Nat) (y c h r : Int) (order : List Int) (x : Int) (d : D) (out hands : List Int) (left : List (List D)) (s : List D) (hr : wi .u32 r = wi .u32 d.fBy) (hb : 1 ≤ d.fKind ∧ d.fKind ≤ 6) :
    G_ringref5_PlayOf_C4 n y c h r order x d out hands left s = some (.x0 (eff c h d).1 (eff c h d).2 out hands (left.set y.toNat s)) := by
  unfold G_ringref5_PlayOf_C4 eff
  rw [hr]
  by_cases k1 : d.fKind = 1
  · rw [if_pos k1, if_pos k1]
  by_cases k2 : d.fKind = 2
  · rw [if_neg k1, if_pos k2, if_neg k1, if_pos k2]
  by_cases k3 : d.fKind = 3
  · rw [if_neg k1, if_neg k2, if_pos k3, if_neg k1, if_neg k2, if_pos k3]
  by_cases k4 : d.fKind = 4
  · rw [if_neg k1, if_neg k2, if_neg k3, if_pos k4, if_neg k1, if_neg k2, if_neg k3, if_pos k4]
  by_cases k5 : d.fKind = 5
  · rw [if_neg k1, if_neg k2, if_neg k3, if_neg k4, if_pos k5, if_neg k1, if_neg k2, if_neg k3, if_neg k4, if_pos k5]
  · have k6 : d.fKind = 6 := by omega
    rw [if_neg k1, if_neg k2, if_neg k3, if_neg k4, if_neg k5, if_pos k6, if_neg k1, if_neg k2, if_neg k3, if_neg k4, if_neg k5]
    by_cases e : c = h
    · rw [if_pos e, if_pos e, e]
    · rw [if_neg e, if_neg e]
end tp
end Go.Proofs.Ytiaebagjcbkkgaa.pv
