/- RmapTells: pairs that are right; the grid; where a pair is. -/
import Derived.Test.YtdonkhioembhlaaGuRmapTells
import Derived.Test.YtdonkhioembhlaaLib
namespace Go.Proofs.Ytdonkhioembhlaa.pv
set_option linter.all false
open Go.RowKit help
namespace rm
abbrev Pr := S_rmap_Pair
abbrev ltP (a b : Pr) : Prop := a.fFrame < b.fFrame ∨ (a.fFrame = b.fFrame ∧ (a.fSpace < b.fSpace ∨ (a.fSpace = b.fSpace ∧ a.fPage < b.fPage)))
theorem ltP_trans {a b c : Pr} (h : ltP a b) (k : ltP b c) : ltP a c := by unfold ltP at *; omega
abbrev pg (s q : Int) : Prop := 1 ≤ s ∧ s ≤ 16 ∧ 0 ≤ q ∧ q ≤ 63
abbrev rg (p : Pr) : Prop := 0 ≤ p.fFrame ∧ p.fFrame ≤ 63 ∧ pg p.fSpace p.fPage
abbrev sameP (a b : Pr) : Prop := a.fSpace = b.fSpace ∧ a.fPage = b.fPage
/-- pairs that are right -/
structure okR (l : List Pr) : Prop where
  len : l.length ≤ 1024
  rg : ∀ p ∈ l, rg p
  up : l.Pairwise ltP
  one : l.Pairwise fun a b => ¬ sameP a b
theorem sub0 {α : Type} (l : List α) (i : Nat) (h : i ≤ l.length) : sub l 0 (i : Int) = some (l.take i) := by
  unfold sub
  rw [if_pos ⟨by omega, by omega, by omega⟩]
  simp
/-! the order -/
def cmpI (a b : Int) : Int := if a < b then -1 else if a > b then 1 else 0
theorem cmp_any (n : Nat) (a b : Int) : G_cmp_Compare_int n a b = some (cmpI a b) := by
  unfold G_cmp_Compare_int G_cmp_isNaN_int cmpI
  simp only [bne_self_eq_false, Option.bind_some, Bool.false_eq_true, if_false]
  by_cases h1 : a < b
  · rw [if_pos h1, if_pos h1]
  · rw [if_neg h1, if_neg h1]
    by_cases h2 : a > b
    · rw [if_pos h2, if_pos h2]
    · rw [if_neg h2, if_neg h2]
theorem or_loop (n : Nat) (vs : List Int) (hv : vs.length ≤ 100) : ∀ (k i : Nat), vs.length - i < k → i ≤ vs.length →
    G_cmp_Or_int_L1 n vs k (i : Int) = some (match (vs.drop i).find? (fun v => v != 0) with | some v => .x0 v | none => .x1)
  | 0, i, h, _ => by omega
  | k + 1, i, h, hi => by
    rw [G_cmp_Or_int_L1]
    by_cases h1 : i < vs.length
    · rw [if_pos (by omega), getI_nat, List.getElem?_eq_getElem h1, Option.bind_some, drop_cons (List.getElem?_eq_getElem h1), List.find?_cons]
      by_cases e : vs[i] = 0
      · rw [if_pos e, e, wi_succ (by omega), or_loop n vs hv k (i + 1) (by omega) (by omega)]; rfl
      · have : (vs[i] != 0) = true := by simpa using e
        rw [if_neg e, this]
    · rw [if_neg (by omega), List.drop_eq_nil_of_le (by omega)]; rfl
theorem or_any (n : Nat) (hn : 110 < n) (vs : List Int) (hv : vs.length ≤ 100) : G_cmp_Or_int n vs = some ((vs.find? (fun v => v != 0)).getD 0) := by
  unfold G_cmp_Or_int
  have h := or_loop n vs hv n 0 (by omega) (by omega)
  have h : G_cmp_Or_int_L1 n vs n 0 = _ := h
  rw [h, List.drop_zero, Option.bind_some]
  cases vs.find? (fun v => v != 0) <;> rfl
/-- what order says -/
def ordI (a b : Pr) : Int := if cmpI a.fFrame b.fFrame ≠ 0 then cmpI a.fFrame b.fFrame else if cmpI a.fSpace b.fSpace ≠ 0 then cmpI a.fSpace b.fSpace else cmpI a.fPage b.fPage
theorem order_any (n : Nat) (hn : 110 < n) (a b : Pr) : G_rmap_order n a b = some (ordI a b) := by
  unfold G_rmap_order ordI
  rw [cmp_any, cmp_any, cmp_any, Option.bind_some, Option.bind_some, Option.bind_some, or_any n hn _ (by simp), Option.bind_some]
  simp only [List.find?_cons, List.find?_nil]
  by_cases a1 : cmpI a.fFrame b.fFrame = 0
  · by_cases a2 : cmpI a.fSpace b.fSpace = 0
    · by_cases a3 : cmpI a.fPage b.fPage = 0
      · simp [a1, a2, a3]
      · have b3 : (cmpI a.fPage b.fPage != 0) = true := by simpa using a3
        simp [a1, a2, b3]
    · have b2 : (cmpI a.fSpace b.fSpace != 0) = true := by simpa using a2
      simp [a1, a2, b2]
  · have b1 : (cmpI a.fFrame b.fFrame != 0) = true := by simpa using a1
    simp [a1, b1]
theorem cmpI_cases (a b : Int) : (a < b ∧ cmpI a b = -1) ∨ (a = b ∧ cmpI a b = 0) ∨ (b < a ∧ cmpI a b = 1) := by
  unfold cmpI
  by_cases h1 : a < b
  · rw [if_pos h1]; exact .inl ⟨h1, rfl⟩
  · rw [if_neg h1]
    by_cases h2 : a > b
    · rw [if_pos h2]; exact .inr (.inr ⟨h2, rfl⟩)
    · rw [if_neg h2]; exact .inr (.inl ⟨by omega, rfl⟩)
theorem ord_lt (a b : Pr) : ordI a b < 0 ↔ ltP a b := by
  unfold ordI ltP
  rcases cmpI_cases a.fFrame b.fFrame with ⟨h1, e1⟩ | ⟨h1, e1⟩ | ⟨h1, e1⟩ <;> rcases cmpI_cases a.fSpace b.fSpace with ⟨h2, e2⟩ | ⟨h2, e2⟩ | ⟨h2, e2⟩ <;> rcases cmpI_cases a.fPage b.fPage with ⟨h3, e3⟩ | ⟨h3, e3⟩ | ⟨h3, e3⟩ <;> simp [e1, e2, e3] <;> omega
/-! the grid -/
def cell {α : Type} [Inhabited α] (B : Fin 17 → Fin 64 → α) (s q : Int) : α := if h : (0 ≤ s ∧ s < 17) ∧ (0 ≤ q ∧ q < 64) then B ⟨s.toNat, by omega⟩ ⟨q.toNat, by omega⟩ else default
theorem grid_get {α : Type} [Inhabited α] (B : Fin 17 → Fin 64 → α) {s q : Int} (hs : 0 ≤ s ∧ s < 17) (hq : 0 ≤ q ∧ q < 64) : ∃ y, getA B s = some y ∧ getA y q = some (cell B s q) ∧ ∀ (v : α) (s' q' : Int), (0 ≤ s' ∧ s' < 17) → (0 ≤ q' ∧ q' < 64) → cell (setA B s (setA y q v)) s' q' = if s' = s ∧ q' = q then v else cell B s' q' := by
  refine ⟨B ⟨s.toNat, by omega⟩, by unfold getA; rw [dif_pos (by omega)], by unfold getA cell; rw [dif_pos (by omega), dif_pos ⟨hs, hq⟩], fun v s' q' hs' hq' => ?_⟩
  unfold cell setA
  rw [dif_pos ⟨hs', hq'⟩, dif_pos ⟨hs', hq'⟩]
  by_cases e1 : s' = s
  · subst e1
    by_cases e2 : q' = q
    · subst e2; simp
    · have : ¬ q'.toNat = q.toNat := by omega
      simp [e2, this]
  · have : ¬ s'.toNat = s.toNat := by omega
    simp [e1, this]
/-! pairs that are right, both ways -/
abbrev key (s q : Int) : Fin 2 → Int := fun i => [s, q].get i
theorem key_inj {s q s' q' : Int} : key s q = key s' q' ↔ s = s' ∧ q = q' := by
  constructor
  · intro h
    exact ⟨congrFun h 0, congrFun h 1⟩
  · rintro ⟨rfl, rfl⟩; rfl
theorem in_any (n : Nat) (x a b : Int) : G_ringref2_In n x a b = some (decide (a ≤ x ∧ x ≤ b)) := by
  unfold G_ringref2_In
  by_cases h : x ≥ a
  · rw [if_pos h]; congr 1; rw [Bool.eq_iff_iff]; simp only [decide_eq_true_eq]; omega
  · rw [if_neg h, decide_eq_false (by omega)]
theorem page_any (n : Nat) (s q : Int) : G_ringref2_PageOf n s q = some (decide (pg s q)) := by
  unfold G_ringref2_PageOf
  rw [in_any, Option.bind_some]
  by_cases h : 1 ≤ s ∧ s ≤ 16
  · rw [decide_eq_true h, if_pos rfl, in_any, Option.bind_some]; congr 1; rw [Bool.eq_iff_iff]; simp only [decide_eq_true_eq]; omega
  · rw [decide_eq_false h, if_neg (by simp), decide_eq_false (by omega)]
theorem pairIs_any (n : Nat) (p : Pr) : G_ringref2_PairIs n p = some (decide (rg p)) := by
  unfold G_ringref2_PairIs
  rw [in_any, Option.bind_some]
  by_cases h : 0 ≤ p.fFrame ∧ p.fFrame ≤ 63
  · rw [decide_eq_true h, if_pos rfl, page_any, Option.bind_some]; congr 1; rw [Bool.eq_iff_iff]; simp only [decide_eq_true_eq]; omega
  · rw [decide_eq_false h, if_neg (by simp), decide_eq_false (by omega)]
theorem right_any (n : Nat) (p : Pr) : G_rmap_right n p = some (decide (rg p)) := by
  unfold G_rmap_right G_rmap_right_C1
  by_cases a1 : p.fFrame ≥ 0
  · rw [if_pos a1]
    by_cases a2 : p.fFrame < 64
    · rw [if_pos a2]
      by_cases a3 : p.fSpace ≥ 1
      · rw [if_pos a3]
        by_cases a4 : p.fSpace ≤ 16
        · rw [if_pos a4]
          by_cases a5 : p.fPage ≥ 0
          · rw [if_pos a5, Option.bind_some]; simp only; congr 1; rw [Bool.eq_iff_iff]; simp only [decide_eq_true_eq]; omega
          · rw [if_neg a5, Option.bind_some, decide_eq_false (by omega)]
        · rw [if_neg a4, Option.bind_some, decide_eq_false (by omega)]
      · rw [if_neg a3, Option.bind_some, decide_eq_false (by omega)]
    · rw [if_neg a2, Option.bind_some, decide_eq_false (by omega)]
  · rw [if_neg a1, Option.bind_some, decide_eq_false (by omega)]
theorem ahead_any (n : Nat) (a b : Pr) : G_ringref2_PairAhead n a b = some (decide (ltP a b)) := by
  unfold G_ringref2_PairAhead
  by_cases a1 : a.fFrame = b.fFrame
  · rw [if_pos a1]
    by_cases a2 : a.fSpace = b.fSpace
    · rw [if_pos a2]; congr 1; rw [Bool.eq_iff_iff]; simp only [decide_eq_true_eq]; omega
    · rw [if_neg a2]; congr 1; rw [Bool.eq_iff_iff]; simp only [decide_eq_true_eq]; omega
  · rw [if_neg a1]; congr 1; rw [Bool.eq_iff_iff]; simp only [decide_eq_true_eq]; omega
/-- is a page of a space among them? -/
def has (l : List Pr) (s q : Int) : Bool := l.any fun p => p.fSpace == s && p.fPage == q
theorem has_iff {l : List Pr} {s q : Int} : has l s q = true ↔ ∃ p ∈ l, p.fSpace = s ∧ p.fPage = q := by
  unfold has
  rw [List.any_eq_true]
  constructor
  · rintro ⟨p, h1, h2⟩; simp at h2; exact ⟨p, h1, h2⟩
  · rintro ⟨p, h1, h2, h3⟩; exact ⟨p, h1, by simp [h2, h3]⟩
theorem has_snoc (l : List Pr) (p : Pr) (s q : Int) : has (l ++ [p]) s q = if s = p.fSpace ∧ q = p.fPage then true else has l s q := by
  unfold has
  rw [List.any_append, List.any_cons, List.any_nil, Bool.or_false]
  by_cases e : s = p.fSpace ∧ q = p.fPage
  · rw [if_pos e, e.1, e.2]; simp
  · rw [if_neg e]
    have : (p.fSpace == s && p.fPage == q) = false := by
      rw [← Bool.not_eq_true]; intro h; simp at h; exact e ⟨h.1.symm, h.2.symm⟩
    rw [this, Bool.or_false]
theorem check_loop (n : Nat) (hn : 200 < n) (l : List Pr) (hl : l.length ≤ 1024) : ∀ (k i : Nat) (w : List ((Fin 2 → Int) × Bool)) (B : Fin 17 → Fin 64 → Bool), l.length - i < k → i ≤ l.length → (∀ s q, (mget w (key s q)).getD false = has (l.take i) s q) → (∀ s q, (0 ≤ s ∧ s < 17) → (0 ≤ q ∧ q < 64) → cell B s q = has (l.take i) s q) →
    (∃ e : Int, e ≠ 0 ∧ G_rmap_Check_L1 n l k (i : Int) w = some (.x0 e) ∧ G_ringref2_Pairs_L1 n l k (i : Int) B = some (.x0 e)) ∨
    (G_rmap_Check_L1 n l k (i : Int) w = some .x1 ∧ G_ringref2_Pairs_L1 n l k (i : Int) B = some .x1 ∧ ∀ j (hj : j < l.length), i ≤ j → rg l[j] ∧ (0 < j → ltP l[j - 1] l[j]) ∧ has (l.take j) l[j].fSpace l[j].fPage = false)
  | 0, i, w, B, h, _, _, _ => by omega
  | k + 1, i, w, B, h, hi, hW, hB => by
    rw [G_rmap_Check_L1, G_ringref2_Pairs_L1]
    by_cases h1 : i < l.length
    · rw [if_pos (by omega), if_pos (by omega), getI_nat, List.getElem?_eq_getElem h1, Option.bind_some, Option.bind_some]
      have hd : l.take (i + 1) = l.take i ++ [l[i]] := List.take_succ_eq_append_getElem h1
      generalize hy : l[i] = y at *
      rw [right_any, pairIs_any, Option.bind_some, Option.bind_some]
      by_cases hr : rg y
      · rw [decide_eq_true hr, if_pos rfl, if_pos rfl]
        have hs : 0 ≤ y.fSpace ∧ y.fSpace < 17 := by omega
        have hq : 0 ≤ y.fPage ∧ y.fPage < 64 := by omega
        obtain ⟨row, g1, g2, g3⟩ := grid_get B hs hq
        have step : (0 < i → ltP l[i - 1] y) →
            (∃ e : Int, e ≠ 0 ∧ (if ((mget w (key y.fSpace y.fPage)).getD false) = true then some (.x0 5) else G_rmap_Check_L1 n l k (wi .i64 ((i : Int) + 1)) (mput w (key y.fSpace y.fPage) true)) = some (.x0 e) ∧
              (if cell B y.fSpace y.fPage = true then some (.x0 5) else G_ringref2_Pairs_L1 n l k (wi .i64 ((i : Int) + 1)) (setA B y.fSpace (setA row y.fPage true))) = some (.x0 e)) ∨
            ((if ((mget w (key y.fSpace y.fPage)).getD false) = true then some (.x0 5) else G_rmap_Check_L1 n l k (wi .i64 ((i : Int) + 1)) (mput w (key y.fSpace y.fPage) true)) = some .x1 ∧
              (if cell B y.fSpace y.fPage = true then some (.x0 5) else G_ringref2_Pairs_L1 n l k (wi .i64 ((i : Int) + 1)) (setA B y.fSpace (setA row y.fPage true))) = some .x1 ∧
              ∀ j (hj : j < l.length), i ≤ j → rg l[j] ∧ (0 < j → ltP l[j - 1] l[j]) ∧ has (l.take j) l[j].fSpace l[j].fPage = false) := by
          intro hlt
          rw [hW, hB _ _ hs hq]
          cases hh : has (l.take i) y.fSpace y.fPage with
          | true => exact .inl ⟨5, by decide, rfl, rfl⟩
          | false =>
            simp only [Bool.false_eq_true, if_false]
            rw [wi_succ (by omega)]
            rcases check_loop n hn l hl k (i + 1) (mput w (key y.fSpace y.fPage) true) (setA B y.fSpace (setA row y.fPage true)) (by omega) (by omega) (fun s q => by
                rw [mget_mput, hd, has_snoc]
                by_cases e : s = y.fSpace ∧ q = y.fPage
                · rw [if_pos (key_inj.2 e), if_pos e]; rfl
                · rw [if_neg (fun h => e (key_inj.1 h)), if_neg e, hW]) (fun s q h1 h2 => by
                rw [g3 true s q h1 h2, hd, has_snoc, hB s q h1 h2]) with h' | ⟨f1, f2, f3⟩
            · exact .inl h'
            · refine .inr ⟨f1, f2, fun j hj hij => ?_⟩
              by_cases e : j = i
              · subst e
                rw [hy]
                exact ⟨hr, hlt, hh⟩
              · exact f3 j hj (by omega)
        by_cases h0 : 0 < i
        · have hp : i - 1 < l.length := by omega
          have w1 : wi .i64 ((i : Int) - 1) = ((i - 1 : Nat) : Int) := by rw [wi64 (by omega) (by omega)]; omega
          have hi0 : (i : Int) > 0 := by omega
          rw [if_pos hi0, if_pos hi0, w1, getI_nat, List.getElem?_eq_getElem hp, Option.bind_some, Option.bind_some, order_any n (by omega), ahead_any, Option.bind_some, Option.bind_some]
          by_cases hlt : ltP l[i - 1] y
          · have := (ord_lt l[i - 1] y).2 hlt
            rw [if_neg (show ¬ ordI l[i - 1] y ≥ 0 by omega), decide_eq_true hlt, if_pos rfl, if_pos hs, if_pos hq, g1, Option.bind_some, g2, Option.bind_some]
            have s' := step (fun _ => hlt)
            simp only [if_pos hs, if_pos hq, g1, g2, Option.bind_some]
            exact s'
          · have : ¬ ordI l[i - 1] y < 0 := fun q => hlt ((ord_lt l[i - 1] y).1 q)
            rw [if_pos (show ordI l[i - 1] y ≥ 0 by omega), decide_eq_false hlt, if_neg (by simp)]
            exact .inl ⟨3, by decide, rfl, rfl⟩
        · have hi0 : ¬ (i : Int) > 0 := by omega
          rw [if_neg hi0, if_neg hi0, if_pos hs, if_pos hq, g1, Option.bind_some, g2, Option.bind_some]
          have s' := step (fun h => absurd h h0)
          simp only [if_pos hs, if_pos hq, g1, g2, Option.bind_some]
          exact s'
      · rw [decide_eq_false hr, if_neg (by simp), if_neg (by simp)]
        exact .inl ⟨1, by decide, rfl, rfl⟩
    · rw [if_neg (by omega), if_neg (by omega)]
      exact .inr ⟨rfl, rfl, fun j hj hij => by omega⟩
theorem sorted_of (l : List Pr) (h : ∀ j (hj : j < l.length), 0 < j → ltP l[j - 1] l[j]) : l.Pairwise ltP := by
  rw [List.pairwise_iff_getElem]
  have key : ∀ d i (hi : i < l.length) (hj : i + d + 1 < l.length), ltP l[i] l[i + d + 1] := by
    intro d
    induction d with
    | zero => intro i hi hj; have := h (i + 1) hj (by omega); simpa using this
    | succ d ih =>
      intro i hi hj
      have h1 := ih i hi (by omega)
      have h2 := h (i + (d + 1) + 1) hj (by omega)
      have e : i + (d + 1) + 1 - 1 = i + d + 1 := by omega
      simp only [e] at h2
      exact ltP_trans h1 h2
  intro i j hi hj hij
  have e : j = i + (j - i - 1) + 1 := by omega
  have := key (j - i - 1) i hi (by omega)
  simp only [← e] at this
  exact this
theorem one_of (l : List Pr) (h : ∀ j (hj : j < l.length), has (l.take j) l[j].fSpace l[j].fPage = false) : l.Pairwise fun a b => ¬ sameP a b := by
  rw [List.pairwise_iff_getElem]
  intro i j hi hj hij hs
  have := h j hj
  rw [← Bool.not_eq_true, has_iff] at this
  refine this ⟨l[i], ?_, hs.1, hs.2⟩
  rw [List.mem_take_iff_getElem]
  exact ⟨i, by omega, rfl⟩
theorem check_any (n : Nat) (hn : 1100 < n) (l : List Pr) : ∃ e : Int, G_rmap_Check n l = some e ∧ G_ringref2_Pairs n l = some e ∧ (e = 0 → okR l) := by
  unfold G_rmap_Check G_ringref2_Pairs
  by_cases h64 : (l.length : Int) > 1024
  · rw [if_pos h64, if_pos h64]
    exact ⟨2, rfl, rfl, fun h => absurd h (by decide)⟩
  · rw [if_neg h64, if_neg h64]
    rcases check_loop n (by omega) l (by omega) n 0 [] (fun _ _ => false) (by omega) (by omega) (fun s q => by simp [mget_nil, has]) (fun s q hs hq => by unfold cell; rw [dif_pos ⟨hs, hq⟩]; simp [has]) with ⟨e, h0, h1, h2⟩ | ⟨h1, h2, h3⟩
    · have h1 : G_rmap_Check_L1 n l n 0 [] = _ := h1
      have h2 : G_ringref2_Pairs_L1 n l n 0 (fun (_ : Fin 17) => (fun (_ : Fin 64) => false)) = _ := h2
      rw [h1, h2]
      exact ⟨e, rfl, rfl, fun h => absurd h h0⟩
    · have h1 : G_rmap_Check_L1 n l n 0 [] = _ := h1
      have h2 : G_ringref2_Pairs_L1 n l n 0 (fun (_ : Fin 17) => (fun (_ : Fin 64) => false)) = _ := h2
      rw [h1, h2]
      refine ⟨0, rfl, rfl, fun _ => ⟨by omega, fun p hp => ?_, sorted_of _ fun j hj h0 => (h3 j hj (by omega)).2.1 h0, one_of _ fun j hj => (h3 j hj (by omega)).2.2⟩⟩
      obtain ⟨j, hj, rfl⟩ := List.mem_iff_getElem.1 hp
      exact (h3 j hj (by omega)).1
end rm
end Go.Proofs.Ytdonkhioembhlaa.pv
