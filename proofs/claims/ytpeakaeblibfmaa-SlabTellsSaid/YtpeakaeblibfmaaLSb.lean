/- The plain law of SlabTells, first part: what is wrong with a slab. -/
import Derived.Test.YtpeakaeblibfmaaSpSl
namespace Go.Proofs.Ytpeakaeblibfmaa.slabTells
open Go.RowKit help pv
set_option linter.all false

abbrev Bx := S_slab_Box
def VU (s : Int) (l : List Int) : Prop := (∀ a ∈ l, 0 ≤ a ∧ a % s = 0 ∧ a + s ≤ 16) ∧ l.Pairwise (· < ·)
def VB (s : Int) (l : List Bx) : Prop := (∀ b ∈ l, 0 ≤ b.fFrame ∧ b.fFrame ≤ 63 ∧ b.fUsed ≠ [] ∧ VU s b.fUsed) ∧ l.Pairwise (fun x y => x.fFrame < y.fFrame)
def okU (s p a : Int) : Bool := decide (p < a) && decide (a % s = 0) && decide (a + s ≤ 16)
def chkU (s : Int) : Int → List Int → Bool
  | _, [] => true
  | p, a :: l => okU s p a && chkU s a l
def okB (p : Int) (b : Bx) : Bool := decide (p < b.fFrame) && decide (b.fFrame ≤ 63) && decide (b.fUsed.length ≠ 0)
def chkB (s : Int) : Int → List Bx → Bool
  | _, [] => true
  | p, b :: l => okB p b && (chkU s (-1) b.fUsed && chkB s b.fFrame l)
theorem chkU_V {s : Int} : ∀ (l : List Int) (p : Int), -1 ≤ p → chkU s p l = true → VU s l ∧ ∀ a ∈ l, p < a
  | [], p, _, _ => ⟨⟨by simp, .nil⟩, by simp⟩
  | a :: l, p, hp, h => by
    simp only [chkU, okU, Bool.and_eq_true, decide_eq_true_eq] at h
    obtain ⟨⟨⟨h1, h2⟩, h3⟩, h4⟩ := h
    obtain ⟨⟨i1, i2⟩, i3⟩ := chkU_V l a (by omega) h4
    refine ⟨⟨?_, .cons (fun x hx => i3 x hx) i2⟩, ?_⟩
    · intro x hx
      rcases List.mem_cons.1 hx with rfl | hx
      · exact ⟨by omega, h2, h3⟩
      · exact i1 x hx
    · intro x hx
      rcases List.mem_cons.1 hx with rfl | hx
      · exact h1
      · have := i3 x hx; omega
theorem chkB_V {s : Int} : ∀ (l : List Bx) (p : Int), -1 ≤ p → chkB s p l = true → VB s l ∧ ∀ b ∈ l, p < b.fFrame
  | [], p, _, _ => ⟨⟨by simp, .nil⟩, by simp⟩
  | b :: l, p, hp, h => by
    simp only [chkB, okB, Bool.and_eq_true, decide_eq_true_eq] at h
    obtain ⟨⟨⟨h1, h2⟩, h3⟩, h4, h5⟩ := h
    obtain ⟨⟨i1, i2⟩, i3⟩ := chkB_V l b.fFrame (by omega) h5
    refine ⟨⟨?_, .cons (fun x hx => i3 x hx) i2⟩, ?_⟩
    · intro x hx
      rcases List.mem_cons.1 hx with rfl | hx
      · exact ⟨by omega, h2, fun e => h3 (by rw [e]; rfl), (chkU_V _ _ (by omega) h4).1⟩
      · exact i1 x hx
    · intro x hx
      rcases List.mem_cons.1 hx with rfl | hx
      · exact h1
      · have := i3 x hx; omega
structure Ok (n : Nat) (t : S_slab_Slab) : Prop where
  l : t.fBoxes.length < 4611686018427387903
  m : t.fBoxes.length + 20000 < n
  u : ∀ b ∈ t.fBoxes, b.fUsed.length < 4611686018427387903 ∧ b.fUsed.length + 20000 < n
  w : ∀ b ∈ t.fBoxes, ∀ a ∈ b.fUsed, a ≤ 9223372036854775807
theorem size16 {s : Int} (h1 : 1 ≤ s) (h2 : s ≤ 16) : s = 1 ∨ s = 2 ∨ s = 3 ∨ s = 4 ∨ s = 5 ∨ s = 6 ∨ s = 7 ∨ s = 8 ∨ s = 9 ∨ s = 10 ∨ s = 11 ∨ s = 12 ∨ s = 13 ∨ s = 14 ∨ s = 15 ∨ s = 16 := by omega
theorem fit {s a : Int} (h1 : 1 ≤ s) (h2 : s ≤ 16) (ha : 0 ≤ a) (hm : a % s = 0) : a / s ≥ 16 / s ↔ ¬ a + s ≤ 16 := by
  rcases size16 h1 h2 with rfl | rfl | rfl | rfl | rfl | rfl | rfl | rfl | rfl | rfl | rfl | rfl | rfl | rfl | rfl | rfl <;> omega
theorem inG (n : Nat) (a b c : Int) : G_ringref2_In n a b c = some (decide (b ≤ a ∧ a ≤ c)) := by
  unfold G_ringref2_In
  split
  · simp; omega
  · simp; omega
theorem per {n : Nat} {t : S_slab_Slab} (h1 : 1 ≤ t.fSize) (h2 : t.fSize ≤ 16) : G_slab_per n t = some (16 / t.fSize) := by
  unfold G_slab_per
  rw [if_pos (by omega), quo_i64 (by omega) (by omega) (by omega)]
/-- the one ahead of the i-th -/
def Prv (l : List Int) (p : Int) (i : Nat) : Prop := (i = 0 ∧ p = -1) ∨ ∃ j, i = j + 1 ∧ l[j]? = some p ∧ 0 ≤ p
theorem checkC2 {n : Nat} {t : S_slab_Slab} {i : Nat} {x : Int} {b : Bx} {p y : Int} (h1 : 1 ≤ t.fSize) (h2 : t.fSize ≤ 16) (hi : i < 4611686018427387904) (hp : Prv b.fUsed p i) (hy : y ≤ 9223372036854775807) :
    G_slab_Check_C2 n (i : Int) y t x b = some (.x0 (!okU t.fSize p y)) := by
  have hp1 : -1 ≤ p := by rcases hp with ⟨_, h⟩ | ⟨j, _, _, h⟩ <;> omega
  unfold G_slab_Check_C2 okU
  by_cases c1 : y < 0
  · rw [if_pos c1]
    simp [show ¬ p < y by omega]
  rw [if_neg c1, if_pos (by omega), rem_nn (by omega)]
  by_cases c2 : y % t.fSize = 0
  case neg => rw [if_neg c2]; simp [c2]
  rw [if_pos c2, if_pos (by omega), per h1 h2, Option.bind_some, quo_i64 (by omega) (by omega) hy]
  by_cases c3 : y / t.fSize ≥ 16 / t.fSize
  · rw [if_pos c3]
    have := (fit h1 h2 (by omega) c2).1 c3
    simp [this]
  have c3' : y + t.fSize ≤ 16 := by
    apply Classical.byContradiction
    intro hh; exact c3 ((fit h1 h2 (by omega) c2).2 hh)
  rw [if_neg c3]
  rcases hp with ⟨rfl, rfl⟩ | ⟨j, rfl, hj, hp0⟩
  · rw [if_neg (by omega)]
    simp [c2, c3', show -1 < y by omega]
  · rw [if_pos (by omega), show wi .i64 (((j + 1 : Nat) : Int) - 1) = (j : Int) by rw [wi64 (by omega) (by omega)]; omega, getI_nat, hj, Option.bind_some]
    simp only [c2, c3', decide_true, Bool.and_true]
    congr 2
    rw [← decide_not, decide_eq_decide]; omega
theorem slabsC2 {n : Nat} {t : S_slab_Slab} {b : Bx} {p y x x' : Int} (h1 : 1 ≤ t.fSize) (h2 : t.fSize ≤ 16) (hp : -1 ≤ p) (hy : y ≤ 9223372036854775807) :
    G_ringref2_Slabs_C2 n b p y t x x' = some (.x0 (!okU t.fSize p y)) := by
  unfold G_ringref2_Slabs_C2 okU
  by_cases c1 : y ≤ p
  · rw [if_pos c1]
    simp [show ¬ p < y by omega]
  rw [if_neg c1, if_pos (by omega), rem_nn (by omega)]
  by_cases c2 : y % t.fSize = 0
  case neg => rw [if_neg c2]; simp [c2]
  rw [if_pos c2]
  by_cases c3 : y ≤ 15
  · rw [wi64 (by omega) (by omega)]
    by_cases c4 : y + t.fSize > 16
    · rw [if_pos c4]
      simp [show ¬ y + t.fSize ≤ 16 by omega]
    · rw [if_neg c4]
      simp [c2, show p < y by omega, show y + t.fSize ≤ 16 by omega, show ¬ y > 15 by omega]
  · have c4 : ¬ y + t.fSize ≤ 16 := by omega
    split
    · simp [c4]
    · simp [c4]; omega
theorem checkL3 {n : Nat} {t : S_slab_Slab} {x : Int} {b : Bx} (h1 : 1 ≤ t.fSize) (h2 : t.fSize ≤ 16) (hl : b.fUsed.length < 4611686018427387903) (hw : ∀ a ∈ b.fUsed, a ≤ 9223372036854775807) : ∀ (k i : Nat) (p : Int), b.fUsed.length - i < k → i ≤ b.fUsed.length → Prv b.fUsed p i →
    G_slab_Check_L3 n t x b k (i : Int) = some (if chkU t.fSize p (b.fUsed.drop i) = true then .x1 else .x0 3)
  | 0, i, p, h, _, _ => by omega
  | k + 1, i, p, h, hi, hp => by
    rw [G_slab_Check_L3]
    by_cases hlt : (i : Int) < (b.fUsed.length : Int)
    · obtain ⟨y, hy⟩ := get_lt hlt
      rw [if_pos hlt, getI_nat, hy, Option.bind_some, checkC2 h1 h2 (by omega) hp (hw y (List.mem_of_getElem? hy)), Option.bind_some, drop_cons hy, chkU]
      cases hc : okU t.fSize p y with
      | false => simp
      | true =>
        have hp1 : -1 ≤ p := by rcases hp with ⟨_, h⟩ | ⟨j, _, _, h⟩ <;> omega
        have : p < y := by simp only [okU, Bool.and_eq_true, decide_eq_true_eq] at hc; exact hc.1.1
        simp only [Bool.not_true, Bool.false_eq_true, if_false, Bool.true_and]
        rw [wi_succ (by omega)]
        exact checkL3 h1 h2 hl hw k (i + 1) y (by omega) (by omega) (.inr ⟨i, rfl, hy, by omega⟩)
    · rw [if_neg hlt, drop_end hlt]; simp [chkU]
theorem slabsL3 {n : Nat} {t : S_slab_Slab} {x : Int} {b : Bx} (h1 : 1 ≤ t.fSize) (h2 : t.fSize ≤ 16) (hl : b.fUsed.length < 4611686018427387903) (hw : ∀ a ∈ b.fUsed, a ≤ 9223372036854775807) : ∀ (k i : Nat) (p : Int), b.fUsed.length - i < k → i ≤ b.fUsed.length → -1 ≤ p →
    G_ringref2_Slabs_L3 n b t x k p (i : Int) = some (if chkU t.fSize p (b.fUsed.drop i) = true then .x1 else .x0 3)
  | 0, i, p, h, _, _ => by omega
  | k + 1, i, p, h, hi, hp => by
    rw [G_ringref2_Slabs_L3]
    by_cases hlt : (i : Int) < (b.fUsed.length : Int)
    · obtain ⟨y, hy⟩ := get_lt hlt
      rw [if_pos hlt, getI_nat, hy, Option.bind_some, slabsC2 h1 h2 hp (hw y (List.mem_of_getElem? hy)), Option.bind_some, drop_cons hy, chkU]
      cases hc : okU t.fSize p y with
      | false => simp
      | true =>
        have : p < y := by simp only [okU, Bool.and_eq_true, decide_eq_true_eq] at hc; exact hc.1.1
        simp only [Bool.not_true, Bool.false_eq_true, if_false, Bool.true_and]
        rw [wi_succ (by omega)]
        exact slabsL3 h1 h2 hl hw k (i + 1) y (by omega) (by omega) (by omega)
    · rw [if_neg hlt, drop_end hlt]; simp [chkU]
def PrvB (l : List Bx) (p : Int) (i : Nat) : Prop := (i = 0 ∧ p = -1) ∨ ∃ j b, i = j + 1 ∧ l[j]? = some b ∧ p = b.fFrame ∧ 0 ≤ p
theorem checkC1 {n : Nat} {t : S_slab_Slab} {i : Nat} {y : Bx} {p : Int} (hi : i < 4611686018427387904) (hp : PrvB t.fBoxes p i) : G_slab_Check_C1 n (i : Int) t y = some (.x0 (!okB p y)) := by
  have hp1 : -1 ≤ p := by rcases hp with ⟨_, h⟩ | ⟨j, b, _, _, _, h⟩ <;> omega
  unfold G_slab_Check_C1 okB
  by_cases c1 : y.fFrame < 0
  · rw [if_pos c1]
    simp [show ¬ p < y.fFrame by omega]
  rw [if_neg c1]
  by_cases c2 : y.fFrame ≥ 64
  · rw [if_pos c2]
    simp [show ¬ y.fFrame ≤ 63 by omega]
  rw [if_neg c2]
  have hz : ((y.fUsed.length : Int) == 0) = decide (y.fUsed.length = 0) := by
    rw [Bool.eq_iff_iff, beq_iff_eq, decide_eq_true_eq]; omega
  rcases hp with ⟨rfl, rfl⟩ | ⟨j, b, rfl, hj, hpb, hp0⟩
  · rw [if_neg (by omega), hz]
    simp [show -1 < y.fFrame by omega, show y.fFrame ≤ 63 by omega]
  · rw [if_pos (by omega), show wi .i64 (((j + 1 : Nat) : Int) - 1) = (j : Int) by rw [wi64 (by omega) (by omega)]; omega, getI_nat, hj, Option.bind_some]
    by_cases c3 : b.fFrame ≥ y.fFrame
    · rw [if_pos c3]
      simp [show ¬ p < y.fFrame by omega]
    · rw [if_neg c3, hz]
      simp [show p < y.fFrame by omega, show y.fFrame ≤ 63 by omega]
theorem slabsC1 {n : Nat} {t : S_slab_Slab} {x : Int} {y : Bx} {p : Int} : G_ringref2_Slabs_C1 n p t x y = some (.x0 (!okB p y)) := by
  unfold G_ringref2_Slabs_C1 okB
  have hz : ((y.fUsed.length : Int) == 0) = decide (y.fUsed.length = 0) := by
    rw [Bool.eq_iff_iff, beq_iff_eq, decide_eq_true_eq]; omega
  by_cases c1 : y.fFrame ≤ p
  · rw [if_pos c1]
    simp [show ¬ p < y.fFrame by omega]
  rw [if_neg c1]
  by_cases c2 : y.fFrame > 63
  · rw [if_pos c2]
    simp [show ¬ y.fFrame ≤ 63 by omega]
  rw [if_neg c2, hz]
  simp [show p < y.fFrame by omega, show y.fFrame ≤ 63 by omega]
theorem checkL4 {n : Nat} {t : S_slab_Slab} (h1 : 1 ≤ t.fSize) (h2 : t.fSize ≤ 16) (ok : Ok n t) : ∀ (k i : Nat) (p : Int), t.fBoxes.length - i < k → i ≤ t.fBoxes.length → PrvB t.fBoxes p i →
    G_slab_Check_L4 n t k (i : Int) = some (if chkB t.fSize p (t.fBoxes.drop i) = true then .x1 else .x0 3)
  | 0, i, p, h, _, _ => by omega
  | k + 1, i, p, h, hi, hp => by
    rw [G_slab_Check_L4]
    have hl := ok.l
    by_cases hlt : (i : Int) < (t.fBoxes.length : Int)
    · obtain ⟨y, hy⟩ := get_lt hlt
      have hm := List.mem_of_getElem? hy
      have hu := ok.u y hm
      rw [if_pos hlt, getI_nat, hy, Option.bind_some, checkC1 (by omega) hp, Option.bind_some, drop_cons hy, chkB]
      cases hc : okB p y with
      | false => simp
      | true =>
        have hp1 : -1 ≤ p := by rcases hp with ⟨_, h⟩ | ⟨j, b, _, _, _, h⟩ <;> omega
        have : p < y.fFrame := by simp only [okB, Bool.and_eq_true, decide_eq_true_eq] at hc; exact hc.1.1
        simp only [Bool.not_true, Bool.false_eq_true, if_false, Bool.true_and]
        have h3 := checkL3 (n := n) (t := t) (x := (i : Int)) (b := y) h1 h2 (by omega) (ok.w y hm) n 0 (-1) (by omega) (by omega) (.inl ⟨rfl, rfl⟩)
        have h3 : G_slab_Check_L3 n t (i : Int) y n 0 = _ := h3
        rw [h3, Option.bind_some, List.drop_zero]
        cases chkU t.fSize (-1) y.fUsed with
        | false => simp
        | true =>
          simp only [if_true, Bool.true_and]
          rw [wi_succ (by omega)]
          exact checkL4 h1 h2 ok k (i + 1) y.fFrame (by omega) (by omega) (.inr ⟨i, y, rfl, hy, rfl, by omega⟩)
    · rw [if_neg hlt, drop_end hlt]; simp [chkB]
theorem slabsL4 {n : Nat} {t : S_slab_Slab} (h1 : 1 ≤ t.fSize) (h2 : t.fSize ≤ 16) (ok : Ok n t) : ∀ (k i : Nat) (p : Int), t.fBoxes.length - i < k → i ≤ t.fBoxes.length →
    G_ringref2_Slabs_L4 n t k p (i : Int) = some (if chkB t.fSize p (t.fBoxes.drop i) = true then .x1 else .x0 3)
  | 0, i, p, h, _ => by omega
  | k + 1, i, p, h, hi => by
    rw [G_ringref2_Slabs_L4]
    have hl := ok.l
    by_cases hlt : (i : Int) < (t.fBoxes.length : Int)
    · obtain ⟨y, hy⟩ := get_lt hlt
      have hm := List.mem_of_getElem? hy
      have hu := ok.u y hm
      rw [if_pos hlt, getI_nat, hy, Option.bind_some, slabsC1, Option.bind_some, drop_cons hy, chkB]
      cases hc : okB p y with
      | false => simp
      | true =>
        simp only [Bool.not_true, Bool.false_eq_true, if_false, Bool.true_and]
        have h3 := slabsL3 (n := n) (t := t) (x := (i : Int)) (b := y) h1 h2 (by omega) (ok.w y hm) n 0 (-1) (by omega) (by omega) (by omega)
        have h3 : G_ringref2_Slabs_L3 n y t (i : Int) n (-1) 0 = _ := h3
        rw [h3, Option.bind_some, List.drop_zero]
        cases chkU t.fSize (-1) y.fUsed with
        | false => simp
        | true =>
          simp only [if_true, Bool.true_and]
          rw [wi_succ (by omega)]
          exact slabsL4 h1 h2 ok k (i + 1) y.fFrame (by omega) (by omega)
    · rw [if_neg hlt, drop_end hlt]; simp [chkB]
def bad (t : S_slab_Slab) : Int := if 1 ≤ t.fSize ∧ t.fSize ≤ 16 then (if (t.fBoxes.length : Int) > 64 then 2 else if chkB t.fSize (-1) t.fBoxes = true then 0 else 3) else 1
theorem newG (n : Nat) (s : Int) : G_slab_New n s = some (if 1 ≤ s ∧ s ≤ 16 then (⟨s, []⟩, 0) else (⟨0, []⟩, 1)) := by
  unfold G_slab_New
  by_cases c : s < 1
  · rw [if_pos c, if_neg (by omega)]
  · rw [if_neg c]
    by_cases d : s > 16
    · rw [if_pos d, if_neg (by omega)]
    · rw [if_neg d, if_pos (by omega)]
theorem check {n : Nat} {t : S_slab_Slab} (ok : Ok n t) : G_slab_Check n t = some (bad t) := by
  unfold G_slab_Check bad
  rw [newG, Option.bind_some]
  have hn := ok.m
  by_cases c : 1 ≤ t.fSize ∧ t.fSize ≤ 16
  · rw [if_pos c, if_pos c, if_pos rfl]
    by_cases d : (t.fBoxes.length : Int) > 64
    · rw [if_pos d, if_pos d]
    · rw [if_neg d, if_neg d]
      have h := checkL4 c.1 c.2 ok n 0 (-1) (by omega) (by omega) (.inl ⟨rfl, rfl⟩)
      have h : G_slab_Check_L4 n t n 0 = _ := h
      rw [h, Option.bind_some, List.drop_zero]
      cases chkB t.fSize (-1) t.fBoxes <;> rfl
  · rw [if_neg c, if_neg c, if_neg (by decide)]
theorem slabs {n : Nat} {t : S_slab_Slab} (ok : Ok n t) : G_ringref2_Slabs n t = some (bad t) := by
  unfold G_ringref2_Slabs bad
  rw [inG, Option.bind_some]
  have hn := ok.m
  by_cases c : 1 ≤ t.fSize ∧ t.fSize ≤ 16
  · rw [if_pos (by simpa using c), if_pos c]
    by_cases d : (t.fBoxes.length : Int) > 64
    · rw [if_pos d, if_pos d]
    · rw [if_neg d, if_neg d]
      have h := slabsL4 c.1 c.2 ok n 0 (-1) (by omega) (by omega)
      have h : G_ringref2_Slabs_L4 n t n (-1) 0 = _ := h
      rw [h, Option.bind_some, List.drop_zero]
      cases chkB t.fSize (-1) t.fBoxes <;> rfl
  · rw [if_neg (by simpa using c), if_neg c]
theorem bad_ok {t : S_slab_Slab} (h : bad t = 0) : 1 ≤ t.fSize ∧ t.fSize ≤ 16 ∧ t.fBoxes.length ≤ 64 ∧ VB t.fSize t.fBoxes := by
  unfold bad at h
  split at h
  · rename_i c
    split at h
    · cases h
    · split at h
      · rename_i d e
        exact ⟨c.1, c.2, by omega, (chkB_V _ _ (by omega) e).1⟩
      · cases h
  · cases h
end Go.Proofs.Ytpeakaeblibfmaa.slabTells
