/- The plain law of SlabTells, third part: what is taken. -/
import Derived.Test.YtpeakaeblibfmaaLSb2
namespace Go.Proofs.Ytpeakaeblibfmaa.slabTells
open Go.RowKit help pv
set_option linter.all false

theorem mul_step {s x : Int} {j : Nat} (h1 : 1 ≤ s) (h2 : s ≤ 16) (hm : x % s = 0) (h : (j : Int) * s < x) : ((j + 1 : Nat) : Int) * s ≤ x := by
  rcases size16 h1 h2 with rfl | rfl | rfl | rfl | rfl | rfl | rfl | rfl | rfl | rfl | rfl | rfl | rfl | rfl | rfl | rfl <;> omega
theorem mul_mod {s : Int} (j : Nat) : ((j : Int) * s) % s = 0 := Int.mul_emod_left _ _
theorem mul_lt {s : Int} {i j : Nat} (h1 : 1 ≤ s) (h : i < j) : (i : Int) * s < (j : Int) * s := by
  apply Int.mul_lt_mul_of_pos_right (by omega) (by omega)
theorem perN {s : Int} {k : Nat} (h1 : 1 ≤ s) (h2 : s ≤ 16) : (k : Int) < 16 / s ↔ (k : Int) * s + s ≤ 16 := by
  rcases size16 h1 h2 with rfl | rfl | rfl | rfl | rfl | rfl | rfl | rfl | rfl | rfl | rfl | rfl | rfl | rfl | rfl | rfl <;> omega
theorem per_le {s : Int} (h1 : 1 ≤ s) (h2 : s ≤ 16) : 0 ≤ 16 / s ∧ 16 / s ≤ 16 := by
  rcases size16 h1 h2 with rfl | rfl | rfl | rfl | rfl | rfl | rfl | rfl | rfl | rfl | rfl | rfl | rfl | rfl | rfl | rfl <;> omega
/-- where a part goes, when all ahead of it are used -/
theorem insAt {s : Int} (h1 : 1 ≤ s) (h2 : s ≤ 16) : ∀ (m j : Nat) (l : List Int), l.Pairwise (· < ·) → (∀ a ∈ l, a % s = 0 ∧ (j : Int) * s ≤ a) → (∀ i, i < m → ((j + i : Nat) : Int) * s ∈ l) →
    m ≤ l.length ∧ (∀ a ∈ l.take m, a < ((j + m : Nat) : Int) * s) ∧ (∀ a ∈ l.drop m, ((j + m : Nat) : Int) * s ≤ a)
  | 0, j, l, _, ha, _ => ⟨by omega, by simp, fun a h => (ha a (by simpa using h)).2⟩
  | m + 1, j, l, hp, ha, hi => by
    have h0 := hi 0 (by omega)
    cases l with
    | nil => simp at h0
    | cons a l =>
      obtain ⟨p1, p2⟩ := List.pairwise_cons.1 hp
      have ha0 := ha a (List.mem_cons_self ..)
      have e : a = (j : Int) * s := by
        rcases List.mem_cons.1 h0 with e | h0
        · exact e.symm
        · have := p1 _ h0
          simp only [Nat.add_zero] at this
          omega
      have ih := insAt h1 h2 m (j + 1) l p2 (fun x hx => ⟨(ha x (List.mem_cons_of_mem _ hx)).1, mul_step h1 h2 (ha x (List.mem_cons_of_mem _ hx)).1 (by rw [← e]; exact p1 x hx)⟩) (fun i him => by
        have := hi (i + 1) (by omega)
        rcases List.mem_cons.1 this with e2 | h3
        · have := mul_lt (s := s) (i := j) (j := j + (i + 1)) h1 (by omega)
          omega
        · rw [show j + 1 + i = j + (i + 1) by omega]; exact h3)
      rw [show j + 1 + m = j + (m + 1) by omega] at ih
      refine ⟨by simp only [List.length_cons]; omega, ?_, ?_⟩
      · intro x hx
        rw [List.take_succ_cons] at hx
        rcases List.mem_cons.1 hx with rfl | hx
        · rw [e]; exact mul_lt h1 (by omega)
        · exact ih.2.1 x hx
      · intro x hx
        rw [List.drop_succ_cons] at hx
        exact ih.2.2 x hx
theorem frame_inj : ∀ {l : List Bx}, l.Pairwise (fun x y => x.fFrame < y.fFrame) → ∀ {b b' : Bx}, b ∈ l → b' ∈ l → b.fFrame = b'.fFrame → b = b'
  | [], _, b, b', h, _, _ => by simp at h
  | x :: l, hp, b, b', h, h', e => by
    obtain ⟨p1, p2⟩ := List.pairwise_cons.1 hp
    rcases List.mem_cons.1 h with e1 | hm
    · rcases List.mem_cons.1 h' with e2 | hm'
      · rw [e1, e2]
      · have := p1 _ hm'; rw [e1] at e; omega
    · rcases List.mem_cons.1 h' with e2 | hm'
      · have := p1 _ hm; rw [e2] at e; omega
      · exact frame_inj p2 hm hm' e
theorem hs_at {s : Int} {l : List Bx} (hv : VB s l) {b : Bx} (hb : b ∈ l) (a : Int) : hs l b.fFrame a = decide (a ∈ b.fUsed) := by
  rw [Bool.eq_iff_iff, hs_iff, decide_eq_true_eq]
  constructor
  · rintro ⟨x, hx, hx1, hx2⟩
    rw [frame_inj hv.2 hx hb hx1] at hx2; exact hx2
  · intro h; exact ⟨b, hb, rfl, h⟩
theorem hs_app (A C : List Bx) (f a : Int) : hs (A ++ C) f a = (hs A f a || hs C f a) := by simp [hs]
theorem hs_one (b : Bx) (C : List Bx) (f a : Int) : hs (b :: C) f a = ((decide (b.fFrame = f) && decide (a ∈ b.fUsed)) || hs C f a) := by simp [hs]
/-- the used parts with one more -/
def insU (l : List Int) (q : Nat) (s : Int) : List Int := l.take q ++ [(q : Int) * s] ++ l.drop q
theorem mem_insU {l : List Int} {q : Nat} {s a : Int} : a ∈ insU l q s ↔ a ∈ l ∨ a = (q : Int) * s := by
  unfold insU
  simp only [List.mem_append, List.mem_singleton]
  constructor
  · rintro ((h | h) | h)
    · exact .inl (List.mem_of_mem_take h)
    · exact .inr h
    · exact .inl (List.mem_of_mem_drop h)
  · rintro (h | h)
    · rw [← List.take_append_drop q l] at h
      rcases List.mem_append.1 h with h | h
      · exact .inl (.inl h)
      · exact .inr h
    · exact .inl (.inr h)
theorem VU_ins {s : Int} {l : List Int} {q : Nat} (h1 : 1 ≤ s) (h2 : s ≤ 16) (hv : VU s l) (hq : (q : Int) < 16 / s) (hno : (q : Int) * s ∉ l) (hall : ∀ j : Nat, j < q → (j : Int) * s ∈ l) : VU s (insU l q s) ∧ q ≤ l.length := by
  have hi := insAt h1 h2 q 0 l hv.2 (fun a ha => ⟨(hv.1 a ha).2.1, by have := (hv.1 a ha).1; simpa using this⟩) (fun i hi => by simpa using hall i hi)
  simp only [Nat.zero_add] at hi
  have hp := hv.2
  rw [← List.take_append_drop q l, List.pairwise_append] at hp
  obtain ⟨p1, p2, p3⟩ := hp
  refine ⟨⟨fun a ha => ?_, ?_⟩, hi.1⟩
  · rcases mem_insU.1 ha with h | rfl
    · exact hv.1 a h
    · exact ⟨Int.mul_nonneg (by omega) (by omega), mul_mod q, (perN h1 h2).1 hq⟩
  · unfold insU
    rw [List.append_assoc, List.pairwise_append]
    refine ⟨p1, ?_, ?_⟩
    · rw [List.singleton_append]
      refine .cons (fun x hx => ?_) p2
      have := hi.2.2 x hx
      have hne : x ≠ (q : Int) * s := fun e => hno (e ▸ List.mem_of_mem_drop hx)
      omega
    · intro x hx y hy
      rw [List.singleton_append] at hy
      rcases List.mem_cons.1 hy with rfl | hy
      · exact hi.2.1 x hx
      · exact p3 x hx y hy
section
variable {n : Nat} {t : S_slab_Slab} (hn : 2000 < n) (h1 : 1 ≤ t.fSize) (h2 : t.fSize ≤ 16) (hl : t.fBoxes.length ≤ 64) (hv : VB t.fSize t.fBoxes)
include hn h1 h2 hl hv
theorem bothL2 {i : Nat} {y : Bx} {fr : Int} (hy : t.fBoxes[i]? = some y) : ∀ (k q : Nat), (16 / t.fSize).toNat - q < k → (q : Int) ≤ 16 / t.fSize → (∀ j : Nat, j < q → (j : Int) * t.fSize ∈ y.fUsed) →
    (∃ r : Nat, (r : Int) < 16 / t.fSize ∧ (r : Int) * t.fSize ∉ y.fUsed ∧ (∀ j : Nat, j < r → (j : Int) * t.fSize ∈ y.fUsed) ∧
      G_slab_Take_L2 n (i : Int) t (16 / t.fSize) t.fBoxes y fr k (q : Int) = some (.x0 false 0 (t.fBoxes.set i ⟨y.fFrame, insU y.fUsed r t.fSize⟩) ⟨y.fFrame, (r : Int) * t.fSize⟩) ∧
      G_ringref2_SlabRoom_L1 n t (i : Int) (toA (hs t.fBoxes)) y k ((q : Int) * t.fSize) = some (.x0 true ⟨y.fFrame, (r : Int) * t.fSize⟩)) ∨
    (G_slab_Take_L2 n (i : Int) t (16 / t.fSize) t.fBoxes y fr k (q : Int) = some (.x1 t.fBoxes) ∧ G_ringref2_SlabRoom_L1 n t (i : Int) (toA (hs t.fBoxes)) y k ((q : Int) * t.fSize) = some .x1)
  | 0, q, h, _, _ => by omega
  | k + 1, q, h, hq, hall => by
    obtain ⟨y1, y2, y3, y4⟩ := hv.1 y (List.mem_of_getElem? hy)
    have hyl := VU_len h1 y4
    have hil := (List.getElem?_eq_some_iff.1 hy).1
    have hp := per_le h1 h2
    have hqs : 0 ≤ (q : Int) * t.fSize := Int.mul_nonneg (by omega) (by omega)
    have hqs2 : (q : Int) * t.fSize ≤ 16 * 16 := Int.mul_le_mul (by omega) (by omega) (by omega) (by omega)
    rw [G_slab_Take_L2, G_ringref2_SlabRoom_L1]
    by_cases c : (q : Int) < 16 / t.fSize
    · have hfit := (perN h1 h2).1 c
      rw [if_pos c, wi64 (x := (q : Int) * t.fSize) (by omega) (by omega), wi64 (x := (q : Int) * t.fSize + t.fSize) (by omega) (by omega), if_pos hfit, if_pos (by omega), if_pos (by omega), getA_toA y1 (by omega), Option.bind_some, getA_row hqs (by omega), Option.bind_some, hs_at hv (List.mem_of_getElem? hy)]
      obtain ⟨r, hr, hr2⟩ := G_slices_Contains_int_int_sp (n := n) (l := y.fUsed) ((q : Int) * t.fSize) (by omega) (by omega)
      rw [hr, Option.bind_some]
      by_cases d : (q : Int) * t.fSize ∈ y.fUsed
      · rw [if_pos (hr2.2 d), if_pos (by simpa using d), wi_succ (by omega)]
        have e : (q : Int) * t.fSize + t.fSize = ((q + 1 : Nat) : Int) * t.fSize := by
          rw [Int.natCast_add, Int.add_mul]; simp
        rw [e]
        exact bothL2 hy k (q + 1) (by omega) (by omega) (fun j hj => by
          by_cases ej : j = q
          · rw [ej]; exact d
          · exact hall j (by omega))
      · left
        have hi := VU_ins h1 h2 y4 c d hall
        refine ⟨q, c, d, hall, ?_, ?_⟩
        · rw [if_neg (fun h => d (hr2.1 h))]
          unfold G_slices_Insert_int_int_h insI
          rw [if_pos (by simp; omega), Option.bind_some, if_pos (by omega), if_pos (by omega), Int.toNat_natCast, hy, Option.bind_some]
          rfl
        · rw [if_neg (by simpa using d)]
    · have hfit : ¬ (q : Int) * t.fSize + t.fSize ≤ 16 := fun h => c ((perN h1 h2).2 h)
      right
      rw [if_neg c, wi64 (by omega) (by omega), if_neg hfit, Int.toNat_natCast, hy, Option.bind_some]
      have e : t.fBoxes.set i ⟨y.fFrame, y.fUsed⟩ = t.fBoxes := set_own hy
      rw [e]
      exact ⟨rfl, rfl⟩
theorem bothL3 {fr : Int} : ∀ (k i : Nat), t.fBoxes.length - i < k → i ≤ t.fBoxes.length →
    (∃ (j r : Nat) (b : Bx), t.fBoxes[j]? = some b ∧ (r : Int) < 16 / t.fSize ∧ (r : Int) * t.fSize ∉ b.fUsed ∧ (∀ j : Nat, j < r → (j : Int) * t.fSize ∈ b.fUsed) ∧
      G_slab_Take_L3 n t fr k (i : Int) t.fBoxes = some (.x0 false 0 (t.fBoxes.set j ⟨b.fFrame, insU b.fUsed r t.fSize⟩) ⟨b.fFrame, (r : Int) * t.fSize⟩) ∧
      G_ringref2_SlabRoom_L2 n t (toA (hs t.fBoxes)) k (i : Int) = some (.x0 true ⟨b.fFrame, (r : Int) * t.fSize⟩)) ∨
    (G_slab_Take_L3 n t fr k (i : Int) t.fBoxes = some (.x1 t.fBoxes) ∧ G_ringref2_SlabRoom_L2 n t (toA (hs t.fBoxes)) k (i : Int) = some .x1)
  | 0, i, h, _ => by omega
  | k + 1, i, h, hi => by
    rw [G_slab_Take_L3, G_ringref2_SlabRoom_L2]
    by_cases hlt : (i : Int) < (t.fBoxes.length : Int)
    · obtain ⟨y, hy⟩ := get_lt hlt
      have hp := per_le h1 h2
      rw [if_pos hlt, if_pos hlt, if_pos (by omega), Int.toNat_natCast, hy, Option.bind_some, getI_nat, hy, Option.bind_some]
      have hper : G_slab_per n ⟨t.fSize, t.fBoxes⟩ = some (16 / t.fSize) := per h1 h2
      rw [hper, Option.bind_some]
      have hb := bothL2 hn h1 h2 hl hv (fr := fr) hy n 0 (by omega) (by omega) (fun j hj => by omega)
      rcases hb with ⟨r, r1, r2, r3, r4, r5⟩ | ⟨r4, r5⟩
      · left
        have r4 : G_slab_Take_L2 n (i : Int) t (16 / t.fSize) t.fBoxes y fr n 0 = _ := r4
        have e0 : ((0 : Nat) : Int) * t.fSize = 0 := by simp
        rw [e0] at r5
        refine ⟨i, r, y, hy, r1, r2, r3, ?_, ?_⟩
        · rw [r4, Option.bind_some]
        · rw [r5, Option.bind_some]
      · have r4 : G_slab_Take_L2 n (i : Int) t (16 / t.fSize) t.fBoxes y fr n 0 = _ := r4
        have e0 : ((0 : Nat) : Int) * t.fSize = 0 := by simp
        rw [e0] at r5
        rw [r4, Option.bind_some, r5, Option.bind_some]
        simp only []
        rw [wi_succ (by omega)]
        exact bothL3 k (i + 1) (by omega) (by omega)
    · right
      rw [if_neg hlt, if_neg hlt]
      exact ⟨rfl, rfl⟩
end
/-- a box's used parts are others -/
theorem VB_set {s : Int} {l : List Bx} {i : Nat} {b : Bx} {u : List Int} (hv : VB s l) (hb : l[i]? = some b) (hu : u ≠ []) (hV : VU s u) : VB s (l.set i ⟨b.fFrame, u⟩) := by
  refine ⟨fun x hx => ?_, ?_⟩
  · rcases List.mem_or_eq_of_mem_set hx with hx | rfl
    · exact hv.1 x hx
    · have := hv.1 b (List.mem_of_getElem? hb)
      exact ⟨this.1, this.2.1, hu, hV⟩
  · have h := hv.2
    rw [← List.pairwise_map (f := fun x : Bx => x.fFrame) (R := fun a b => a < b)] at h ⊢
    rw [List.map_set]
    have : (l.map fun x : Bx => x.fFrame).set i (b.fFrame) = l.map fun x : Bx => x.fFrame := set_own (by rw [List.getElem?_map, hb]; rfl)
    rw [this]; exact h
theorem set_split {l : List Bx} {i : Nat} {b x : Bx} (hb : l[i]? = some b) : l.set i x = l.take i ++ x :: l.drop (i + 1) ∧ l = l.take i ++ b :: l.drop (i + 1) := by
  have hlt := (List.getElem?_eq_some_iff.1 hb).1
  refine ⟨by rw [List.set_eq_take_append_cons_drop, if_pos hlt], by rw [← drop_cons hb, List.take_append_drop]⟩
end Go.Proofs.Ytpeakaeblibfmaa.slabTells
