/- The plain law of TwinTells, third part: what is free, how much of it, and whether a room is apart from it. -/
import Derived.Test.YtpeakaeblibfmaaLTw2
namespace Go.Proofs.Ytpeakaeblibfmaa.twinTells
open Go.RowKit help pv
set_option linter.all false

def before (x y : R) : Prop := x.fAt + pw x.fOrder ≤ y.fAt
/-- the rooms of a right twin -/
def V (o : Int) (l : List R) : Prop := (∀ x ∈ l, VR o x) ∧ l.Pairwise before
theorem V_of {o : Int} : ∀ (l : List R) (e : Int) (p : Option R), chk o e p l = true → V o l ∧ ∀ x ∈ l, e ≤ x.fAt
  | [], e, p, _ => ⟨⟨by simp, .nil⟩, by simp⟩
  | r :: l, e, p, h => by
    simp only [chk, Bool.and_eq_true, decide_eq_true_eq] at h
    obtain ⟨⟨⟨h1, h2⟩, _⟩, h3⟩ := h
    obtain ⟨⟨i1, i2⟩, i3⟩ := V_of l _ _ h3
    have p0 := pw_pos r.fOrder
    refine ⟨⟨?_, .cons (fun x hx => i3 x hx) i2⟩, ?_⟩
    · intro x hx
      rcases List.mem_cons.1 hx with rfl | hx
      · exact h1
      · exact i1 x hx
    · intro x hx
      rcases List.mem_cons.1 hx with rfl | hx
      · exact h2
      · have := i3 x hx; omega
theorem V_tail {o : Int} {r : R} {l : List R} (h : V o (r :: l)) : V o l ∧ ∀ x ∈ l, r.fAt + pw r.fOrder ≤ x.fAt :=
  ⟨⟨fun x hx => h.1 x (List.mem_cons_of_mem _ hx), (List.pairwise_cons.1 h.2).2⟩, fun x hx => (List.pairwise_cons.1 h.2).1 x hx⟩
def sm : List R → Int
  | [] => 0
  | r :: l => pw r.fOrder + sm l
theorem V_sum {o : Int} (h6 : o ≤ 6) : ∀ (l : List R) (e : Int), V o l → (∀ x ∈ l, e ≤ x.fAt) → e ≤ 64 → e + sm l ≤ 64 ∧ (l.length : Int) ≤ sm l
  | [], e, _, _, h => by simp [sm]; omega
  | r :: l, e, hv, he, h => by
    obtain ⟨h1, h2⟩ := V_tail hv
    have hr := hv.1 r (List.mem_cons_self ..)
    have := he r (List.mem_cons_self ..)
    have p0 := pw_pos r.fOrder
    have p2 := pw6 h6
    have p4 := hr.2.2.2.1
    have ih := V_sum h6 l (r.fAt + pw r.fOrder) h1 h2 (by omega)
    simp only [sm, List.length_cons]
    omega
theorem V_len {o : Int} (h6 : o ≤ 6) {l : List R} (h : V o l) : l.length ≤ 64 := by
  have := V_sum h6 l 0 h (fun x hx => (h.1 x hx).2.2.1) (by omega)
  omega
theorem sm_nn : ∀ (l : List R), 0 ≤ sm l
  | [] => by simp [sm]
  | r :: l => by have := sm_nn l; have := pw_pos r.fOrder; simp only [sm]; omega
def mx (b : Int) (l : List R) : Int := l.foldl (fun b r => maxI b r.fOrder) b
theorem mostL {n : Nat} {t : S_twin_Twin} (h6 : t.fOrder ≤ 6) (hl : t.fFree.length < 4611686018427387903) (hv : ∀ x ∈ t.fFree, VR t.fOrder x) : ∀ (k i : Nat) (b N : Int), t.fFree.length - i < k → i ≤ t.fFree.length → 0 ≤ N → N + sm (t.fFree.drop i) ≤ 64 →
    G_twin_Most_L1 n t k b N (i : Int) = some (.x0 (mx b (t.fFree.drop i)) (N + sm (t.fFree.drop i)))
  | 0, i, b, N, h, _, _, _ => by omega
  | k + 1, i, b, N, h, hi, hN, hs => by
    rw [G_twin_Most_L1]
    by_cases hlt : (i : Int) < (t.fFree.length : Int)
    · obtain ⟨x, hx⟩ := get_lt hlt
      have hr := hv x (List.mem_of_getElem? hx)
      have p0 := pw_pos x.fOrder
      rw [drop_cons hx] at hs ⊢
      simp only [sm] at hs ⊢
      have s0 := sm_nn (t.fFree.drop (i + 1))
      rw [if_pos hlt, getI_nat, hx, Option.bind_some, if_pos hr.1, shl1 hr.1 (by have := hr.2.1; omega), wi64 (by omega) (by omega), wi_succ (by omega)]
      rw [mostL h6 hl hv k (i + 1) _ _ (by omega) (by omega) (by omega) (by omega)]
      simp only [mx, List.foldl_cons]
      rw [Int.add_assoc]
    · rw [if_neg hlt, drop_end hlt]; simp [mx, sm]
/-- which frames are free -/
def fr (l : List R) (j : Int) : Bool := l.any (fun r => cvr r j)
theorem freeL3 {n : Nat} {t : S_twin_Twin} (h6 : t.fOrder ≤ 6) (hn : 100 < n) (hl : t.fFree.length < 4611686018427387903) (hv : ∀ x ∈ t.fFree, VR t.fOrder x) : ∀ (k i : Nat) (b : Fin 64 → Bool), t.fFree.length - i < k → i ≤ t.fFree.length →
    G_ringref2_TwinFree_L3 n t k (i : Int) b = some (.x0 (fun j => b j || fr (t.fFree.drop i) (j.val : Int)))
  | 0, i, b, h, _ => by omega
  | k + 1, i, b, h, hi => by
    rw [G_ringref2_TwinFree_L3]
    by_cases hlt : (i : Int) < (t.fFree.length : Int)
    · obtain ⟨x, hx⟩ := get_lt hlt
      obtain ⟨x0, x1, x2, x3, x4⟩ := hv x (List.mem_of_getElem? hx)
      have p0 := pw_pos x.fOrder
      have p2 := pw6 h6
      rw [if_pos hlt, getI_nat, hx, Option.bind_some, power x0 (by omega) (by omega), Option.bind_some]
      have hP : pw x.fOrder = ((2 ^ x.fOrder.toNat : Nat) : Int) := rfl
      have h64 : 2 ^ x.fOrder.toNat ≤ 64 := by omega
      have hf := freeL (n := n) (x := (i : Int)) (t := t) (P := 2 ^ x.fOrder.toNat) (y := x) x2 (by omega) n 0 b (by omega) (by omega)
      rw [← hP] at hf
      have hf : G_ringref2_TwinFree_L2 n t (i : Int) (pw x.fOrder) x n 0 b = _ := hf
      rw [hf, Option.bind_some]
      simp only []
      rw [wi_succ (by omega), freeL3 h6 hn hl hv k (i + 1) _ (by omega) (by omega), drop_cons hx]
      simp only [fr, List.any_cons, cvr, Bool.or_assoc, Int.natCast_zero, Int.add_zero]
    · rw [if_neg hlt, drop_end hlt]; simp [fr]
theorem free {n : Nat} {t : S_twin_Twin} (h6 : t.fOrder ≤ 6) (hl : t.fFree.length < 4611686018427387903) (hn : t.fFree.length + 100 < n) (hv : ∀ x ∈ t.fFree, VR t.fOrder x) : G_ringref2_TwinFree n t = some (fun j => fr t.fFree (j.val : Int)) := by
  unfold G_ringref2_TwinFree
  have h := freeL3 (n := n) h6 (by omega) hl hv n 0 (fun _ => false) (by omega) (by omega)
  have h : G_ringref2_TwinFree_L3 n t n 0 (fun _ => false) = _ := h
  rw [h, Option.bind_some, List.drop_zero]
  simp

def cnt (f : Int → Bool) : Nat → Int → Int
  | 0, _ => 0
  | m + 1, x => (if f x = true then 1 else 0) + cnt f m (x + 1)
theorem cnt_none {f : Int → Bool} : ∀ (m : Nat) (x : Int), (∀ j, x ≤ j → j < x + m → f j = false) → cnt f m x = 0
  | 0, x, _ => rfl
  | m + 1, x, h => by
    rw [cnt, h x (by omega) (by omega), cnt_none m (x + 1) (fun j h1 h2 => h j (by omega) (by omega))]
    rfl
theorem cnt_all {f : Int → Bool} : ∀ (m : Nat) (x : Int), (∀ j, x ≤ j → j < x + m → f j = true) → cnt f m x = m
  | 0, x, _ => rfl
  | m + 1, x, h => by
    rw [cnt, h x (by omega) (by omega), cnt_all m (x + 1) (fun j h1 h2 => h j (by omega) (by omega))]
    simp; omega
theorem cnt_add {f : Int → Bool} : ∀ (a b : Nat) (x : Int), cnt f (a + b) x = cnt f a x + cnt f b (x + a)
  | 0, b, x => by simp [cnt]
  | a + 1, b, x => by
    rw [show a + 1 + b = (a + b) + 1 by omega, cnt, cnt, cnt_add a b (x + 1), show x + 1 + (a : Int) = x + ((a + 1 : Nat) : Int) by omega]
    omega
theorem cnt_congr {f g : Int → Bool} : ∀ (m : Nat) (x : Int), (∀ j, x ≤ j → j < x + m → f j = g j) → cnt f m x = cnt g m x
  | 0, x, _ => rfl
  | m + 1, x, h => by rw [cnt, cnt, h x (by omega) (by omega), cnt_congr m (x + 1) (fun j h1 h2 => h j (by omega) (by omega))]
theorem fr_lo {l : List R} {j e : Int} (h : ∀ x ∈ l, e ≤ x.fAt) (hj : j < e) : fr l j = false := by
  unfold fr
  rw [List.any_eq_false]
  intro x hx
  have := h x hx
  simp [cvr]; omega
theorem count {o : Int} (h6 : o ≤ 6) : ∀ (l : List R) (e m : Nat), V o l → (∀ x ∈ l, (e : Int) ≤ x.fAt) → e + m = 64 → cnt (fr l) m (e : Int) = sm l
  | [], e, m, _, _, _ => by rw [cnt_none (f := fr []) m _ (fun j _ _ => rfl)]; rfl
  | r :: l, e, m, hv, he, hm => by
    obtain ⟨h1, h2⟩ := V_tail hv
    have hr := hv.1 r (List.mem_cons_self ..)
    have her := he r (List.mem_cons_self ..)
    have p0 := pw_pos r.fOrder
    have p2 := pw6 h6
    have p4 := hr.2.2.2.1
    obtain ⟨A, hA⟩ := Int.eq_ofNat_of_zero_le hr.2.2.1
    obtain ⟨P, hP⟩ := Int.eq_ofNat_of_zero_le (show 0 ≤ pw r.fOrder by omega)
    obtain ⟨a, rfl⟩ : ∃ a, A = e + a := ⟨A - e, by omega⟩
    obtain ⟨c, rfl⟩ : ∃ c, m = a + (P + c) := ⟨m - (a + P), by omega⟩
    have hc : ∀ j, fr (r :: l) j = (cvr r j || fr l j) := fun j => rfl
    rw [cnt_add, cnt_add, cnt_none a, cnt_all P, sm, cnt_congr (g := fr l) c, show (e : Int) + (a : Int) + (P : Int) = ((e + a + P : Nat) : Int) by omega, count h6 l (e + a + P) c h1 (fun x hx => by have := h2 x hx; omega) (by omega)]
    · omega
    · intro j j1 j2
      have : cvr r j = false := by simp [cvr]; omega
      rw [hc, this]; rfl
    · intro j j1 j2
      have : cvr r j = true := by simp [cvr]; omega
      rw [hc, this]; rfl
    · intro j j1 j2
      have : cvr r j = false := by simp [cvr]; omega
      rw [hc, this, fr_lo (e := ((e + a : Nat) : Int)) (fun x hx => by have := h2 x hx; omega) (by omega)]; rfl
theorem manyL {n : Nat} {t : S_twin_Twin} {order at' : Int} {x1 : S_twin_Twin × Int × Int} {x2 : S_twin_Twin × Int} {x3 : Int × Int × Int} (f : Int → Bool) : ∀ (k i : Nat) (N : Int), 64 - i < k → i ≤ 64 → 0 ≤ N → N ≤ i →
    G_ringlaw2_TwinTells_L3 n order at' x1 x2 x3 (fun j : Fin 64 => f (j.val : Int)) t k N (i : Int) = some (.x0 (N + cnt f (64 - i) (i : Int)))
  | 0, i, N, h, _, _, _ => by omega
  | k + 1, i, N, h, hi, h0, h1 => by
    rw [G_ringlaw2_TwinTells_L3]
    by_cases hlt : (i : Int) < 64
    · rw [if_pos hlt, getA_fin (by omega) hlt, Option.bind_some]
      simp only [Int.toNat_natCast]
      rw [show 64 - i = (64 - (i + 1)) + 1 by omega, cnt]
      by_cases hf : f (i : Int) = true
      · rw [if_pos hf, if_pos hf]
        rw [wi64 (by omega) (by omega), wi_succ (by omega), manyL f k (i + 1) (N + 1) (by omega) (by omega) (by omega) (by omega), show ((i + 1 : Nat) : Int) = (i : Int) + 1 by omega]
        congr 2; omega
      · rw [if_neg hf, if_neg hf]
        rw [wi_succ (by omega), manyL f k (i + 1) N (by omega) (by omega) (by omega) (by omega), show ((i + 1 : Nat) : Int) = (i : Int) + 1 by omega]
        congr 2; omega
    · rw [if_neg hlt, show 64 - i = 0 by omega]; simp [cnt]
theorem lawMost {n : Nat} {t : S_twin_Twin} {order at' z : Int} {b : Fin 64 → Bool} {x1 : S_twin_Twin × Int × Int} {x2 : S_twin_Twin × Int} {x3 : Int × Int × Int} (hl : t.fFree.length < 4611686018427387903) : ∀ (k i : Nat) (N : Int), t.fFree.length - i < k → i ≤ t.fFree.length →
    G_ringlaw2_TwinTells_L4 n order at' x1 x2 x3 z t b k N (i : Int) = some (.x0 (mx N (t.fFree.drop i)))
  | 0, i, N, h, _ => by omega
  | k + 1, i, N, h, hi => by
    rw [G_ringlaw2_TwinTells_L4]
    by_cases hlt : (i : Int) < (t.fFree.length : Int)
    · obtain ⟨x, hx⟩ := get_lt hlt
      rw [if_pos hlt, getI_nat, hx, Option.bind_some, wi_succ (by omega), lawMost hl k (i + 1) _ (by omega) (by omega), drop_cons hx]
      simp only [mx, List.foldl_cons]
    · rw [if_neg hlt, drop_end hlt]; simp [mx]

/-- do two rooms meet? -/
def meets (r x : R) : Bool := decide (x.fAt < r.fAt + pw r.fOrder) && decide (r.fAt < x.fAt + pw x.fOrder)
def apt (o : Int) (l : List R) (r : R) : Bool := decide (VR o r) && !(l.any (meets r))
theorem apart {n : Nat} {t : S_twin_Twin} {r : R} (h0 : 0 ≤ t.fOrder) (h6 : t.fOrder ≤ 6) (hl : t.fFree.length < 4611686018427387903) (hn : t.fFree.length < n) (hv : ∀ x ∈ t.fFree, VR t.fOrder x) : G_twin_apart n t r = some (apt t.fOrder t.fFree r) := by
  unfold G_twin_apart G_twin_apart_C1 apt
  by_cases c1 : r.fOrder ≥ 0
  case neg =>
    rw [if_neg c1]
    have : ¬ VR t.fOrder r := fun h => c1 h.1
    simp [this]
  rw [if_pos c1]
  by_cases c2 : r.fOrder ≤ t.fOrder
  case neg =>
    rw [if_neg c2]
    have : ¬ VR t.fOrder r := fun h => c2 h.2.1
    simp [this]
  rw [if_pos c2]
  by_cases c3 : r.fAt ≥ 0
  case neg =>
    rw [if_neg c3]
    have : ¬ VR t.fOrder r := fun h => c3 h.2.2.1
    simp [this]
  have p0 := pw_pos r.fOrder
  have p1 := pw_pos t.fOrder
  have p2 := pw6 h6
  have p3 := pw_le c2
  rw [if_pos c3, if_pos h0, if_pos c1, shl1 h0 h6, shl1 c1 (by omega), wi64 (by omega) (by omega)]
  by_cases c4 : r.fAt ≤ pw t.fOrder - pw r.fOrder
  case neg =>
    rw [if_neg c4]
    have : ¬ VR t.fOrder r := fun h => c4 h.2.2.2.1
    simp [this]
  rw [if_pos c4, if_pos c1, if_pos (by omega), rem_nn c3]
  by_cases c5 : r.fAt % pw r.fOrder = 0
  case neg =>
    rw [if_neg c5]
    have : ¬ VR t.fOrder r := fun h => c5 h.2.2.2.2
    simp [this]
  rw [if_pos c5, G_slices_ContainsFunc_twin_Room_twin_Room_sp (meets r) ?_ hl hn]
  · have : VR t.fOrder r := ⟨c1, c2, c3, c4, c5⟩
    simp [this]
  · intro y hy
    obtain ⟨y0, y1, y2, y3, y4⟩ := hv y hy
    have q0 := pw_pos y.fOrder
    unfold G_twin_apart_1 meets
    rw [if_pos c1, shl1 c1 (by omega), wi64 (by omega) (by omega)]
    by_cases h : y.fAt < r.fAt + pw r.fOrder
    · rw [if_pos h, if_pos y0, shl1 y0 (by omega), wi64 (by omega) (by omega)]
      simp [h]
    · rw [if_neg h]
      simp [h]
theorem giveL {n : Nat} {t : S_twin_Twin} {order at' : Int} {x1 : S_twin_Twin × Int × Int} {x2 : S_twin_Twin × Int} {f : Int → Bool} (ho : 0 ≤ order) (h6 : order ≤ 6) (ha : 0 ≤ at') (he : at' + pw order ≤ 64) (hn : 7 < n) : ∀ (k i : Nat), (pw order).toNat + 1 - i < k → (i : Int) ≤ pw order →
    ∃ g : Bool, G_ringlaw2_TwinTells_L6 n order at' x1 x2 t (fun j : Fin 64 => f (j.val : Int)) k true (i : Int) = some (.x0 g) ∧ (g = true ↔ ∀ j : Int, (i : Int) ≤ j → j < pw order → f (at' + j) = false)
  | 0, i, h, _ => by omega
  | k + 1, i, h, hi => by
    rw [G_ringlaw2_TwinTells_L6, if_pos rfl, power ho h6 hn, Option.bind_some]
    by_cases hlt : (i : Int) < pw order
    · rw [if_pos hlt, wi64 (by omega) (by omega), if_pos (by omega), getA_fin (by omega) (by omega), Option.bind_some, wi_succ (by omega)]
      have e : (((at' + (i : Int)).toNat : Nat) : Int) = at' + i := by omega
      simp only [e]
      cases hf : f (at' + i) with
      | true =>
        obtain ⟨m, rfl⟩ : ∃ m, k = m + 1 := ⟨k - 1, by omega⟩
        refine ⟨false, ?_, ?_⟩
        · rw [Bool.not_true, G_ringlaw2_TwinTells_L6, if_neg (by decide)]
        · simp only [Bool.false_eq_true, false_iff]
          intro hall
          have := hall i (by omega) hlt
          rw [hf] at this; cases this
      | false =>
        obtain ⟨g, hg1, hg2⟩ := giveL (n := n) (t := t) (x1 := x1) (x2 := x2) (f := f) ho h6 ha he hn k (i + 1) (by omega) (by omega)
        refine ⟨g, hg1, hg2.trans ⟨fun hh j h1 h2 => ?_, fun hh j h1 h2 => hh j (by omega) h2⟩⟩
        rcases Int.lt_or_eq_of_le h1 with h3 | h3
        · exact hh j (by omega) h2
        · rw [← h3]; exact hf
    · rw [if_neg hlt]
      exact ⟨true, rfl, by simp; intro j h1 h2; omega⟩
theorem give {n : Nat} {t : S_twin_Twin} {order at' : Int} {x1 : S_twin_Twin × Int × Int} {x2 : S_twin_Twin × Int} (h0 : 0 ≤ t.fOrder) (h6 : t.fOrder ≤ 6) (hn : 200 < n) :
    G_ringlaw2_TwinTells_L6 n order at' x1 x2 t (fun j : Fin 64 => fr t.fFree (j.val : Int)) n (decide (VR t.fOrder ⟨at', order⟩)) 0 = some (.x0 (apt t.fOrder t.fFree ⟨at', order⟩)) := by
  unfold apt
  by_cases c : VR t.fOrder ⟨at', order⟩
  · have p2 := pw6 h6
    obtain ⟨y0, y1, y2, y3, y4⟩ := c
    simp only at y0 y1 y2 y3 y4
    have p0 := pw_pos order
    obtain ⟨g, h1, h2⟩ := giveL (n := n) (t := t) (x1 := x1) (x2 := x2) (f := fr t.fFree) y0 (by omega) y2 (by omega) (by omega) n 0 (by omega) (by omega)
    have h1 : G_ringlaw2_TwinTells_L6 n order at' x1 x2 t (fun j : Fin 64 => fr t.fFree (j.val : Int)) n true 0 = _ := h1
    have hv : VR t.fOrder ⟨at', order⟩ := ⟨y0, y1, y2, y3, y4⟩
    simp only [hv, decide_true, Bool.true_and]
    rw [h1]
    congr 2
    rw [Bool.eq_iff_iff, h2, Bool.not_eq_true', List.any_eq_false]
    constructor
    · intro h x hx hm
      simp only [meets, Bool.and_eq_true, decide_eq_true_eq] at hm
      -- the first frame that both hold
      have q0 := pw_pos x.fOrder
      have key : ∃ j, 0 ≤ j ∧ j < pw order ∧ x.fAt ≤ at' + j ∧ at' + j < x.fAt + pw x.fOrder := by
        by_cases hle : x.fAt ≤ at'
        · exact ⟨0, by omega, by omega, by omega, by omega⟩
        · exact ⟨x.fAt - at', by omega, by omega, by omega, by omega⟩
      obtain ⟨j, j1, j2, j3, j4⟩ := key
      have := h j (by omega) j2
      unfold fr at this
      rw [List.any_eq_false] at this
      exact this x hx (by simp [cvr, j3, j4])
    · intro h j j1 j2
      unfold fr
      rw [List.any_eq_false]
      intro x hx hc
      simp only [cvr, decide_eq_true_eq] at hc
      exact h x hx (by simp only [meets, Bool.and_eq_true, decide_eq_true_eq]; omega)
  · simp only [c, decide_false, Bool.false_and]
    obtain ⟨m, rfl⟩ : ∃ m, n = m + 1 := ⟨n - 1, by omega⟩
    rw [G_ringlaw2_TwinTells_L6, if_neg (by decide)]
end Go.Proofs.Ytpeakaeblibfmaa.twinTells
